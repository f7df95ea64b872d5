import Derived.Test.YtpphpgkimfejpaaGg
namespace Go.Mod
open Go Go.AM Go.Proofs
set_option linter.unusedVariables false
set_option linter.unusedSimpArgs false
set_option maxRecDepth 100000
set_option maxHeartbeats 8000000
theorem c_spec_l06Stage (p0 : List l06Row) (p1 : Int) (out : (List l06Row) × Int × Bool) (hm : m_spec_l06Stage p0 p1 = some out) : ACall Try.prog 58 [.sl 3 (List.map a_l06Row p0), .int .i64 p1] [] (.tup [.sl 3 (List.map a_l06Row out.1), .int .i64 out.2.1, .bool out.2.2]) [] := by
  refine ACall.intro Try.func58 rfl Try.ntmps58 rfl (fun F hF => ?_)
  unfold m_spec_l06Stage at hm
  refine T_seq ?_
  refine T_region ?_
  refine TL_pure rfl rfl rfl rfl (op_assign rfl) ?_
  refine TL_pure rfl rfl rfl rfl (op_assign rfl) ?_
  refine TL_pure rfl rfl rfl rfl (op_assign rfl) ?_
  refine TL_nil ?_
  refine T_seq ?_
  refine T_region ?_
  refine TL_buildSlice 11 (es := List.map a_l06Row ([] : List l06Row)) el84 z91 rfl rfl rfl rfl rfl rfl rfl rfl rfl ?_
  refine TL_pure rfl rfl rfl rfl (op_assign rfl) ?_
  refine TL_nil ?_
  refine T_seq ?_
  refine T_seq ?_
  refine T_region ?_
  refine TL_pure rfl rfl rfl rfl (op_assign rfl) ?_
  refine TL_nil ?_
  refine T_block ?_
  refine T_keepH [0, 1, 7, 8] [11] rfl rfl rfl rfl (by rw [hF]; rfl) ?_
  refine T_loop ?_
  obtain ⟨u0, hl0, hm⟩ := bindS hm
  refine TR_iter2 (m_spec_l06Stage_L0 p0 p1) (fun (s0 : (List l06Row) × Int) => ⟨[(0, .sl 3 (List.map a_l06Row p0)), (1, .int .i64 p1), (7, .ow 11), (8, .int .i64 s0.2)], [(11, .arr ⟨false, false⟩ 3 91 (List.map a_l06Row s0.1))]⟩) (fun u0 => .exit 0) (fun u0 => ⟨[(0, .sl 3 (List.map a_l06Row p0)), (1, .int .i64 p1), (7, .ow 11)], [(11, .arr ⟨false, false⟩ 3 91 (List.map a_l06Row u0))]⟩) (fun u0 => m_spec_l06Stage_A0 p0 p1 u0 = some out) hl0 hm (fun u0 hm => ?_) (fun hx0 s0 c0 hm hc0 => ?_)
  · unfold m_spec_l06Stage_A0 at hm
    refine T_seq ?_
    refine T_region ?_
    refine TL_pure rfl rfl rfl rfl (op_move rfl) ?_
    refine TL_pure rfl rfl rfl rfl (op_lenO Try.underlying84 rfl rfl (List.length_map _)) ?_
    refine TL_fact (fun _ _ _ hr => RelP.owLen (id := 11) rfl hr) (fun hlen38 => ?_)
    rw [List.length_map] at hlen38
    refine TL_pure rfl rfl rfl rfl (op_assign rfl) ?_
    refine TL_nil ?_
    refine T_seq ?_
    refine T_seq ?_
    refine T_region ?_
    refine TL_pure rfl rfl rfl rfl (op_assign rfl) ?_
    refine TL_nil ?_
    refine T_block ?_
    refine T_keepH [0, 1, 7, 9, 10] [11] rfl rfl rfl rfl (by rw [hF]; rfl) ?_
    refine T_loop ?_
    obtain ⟨u1, hl1, hm⟩ := bindS hm
    refine TR_iter2 (m_spec_l06Stage_L1 p0 p1) (fun (s1 : (List l06Row) × Int) => ⟨[(0, .sl 3 (List.map a_l06Row p0)), (1, .int .i64 p1), (7, .ow 11), (9, .int .i64 (u0.length : Int)), (10, .int .i64 s1.2)], [(11, .arr ⟨false, false⟩ 3 91 (List.map a_l06Row s1.1))]⟩) (fun u1 => match u1 with | .inl u1 => .exit 2 | .inr u1 => .ret) (fun u1 => match u1 with | .inl u1 => ⟨[(7, .ow 11), (9, .int .i64 (u0.length : Int))], [(11, .arr ⟨false, false⟩ 3 91 (List.map a_l06Row u1))]⟩ | .inr u1 => ⟨[(4, .sl 3 (List.map a_l06Row u1.1)), (5, .int .i64 u1.2.1), (6, .bool u1.2.2)], []⟩) (fun u1 => m_spec_l06Stage_A1 u0 u1 = some out) hl1 hm (fun u1 hm => ?_) (fun hx1 s1 c1 hm hc1 => ?_)
    · rcases u1 with u1 | u1
      · unfold m_spec_l06Stage_A1 at hm
        refine T_seq ?_
        refine T_region ?_
        refine TL_pure rfl rfl rfl rfl (op_move rfl) ?_
        refine TL_pure rfl rfl rfl rfl (op_move rfl) ?_
        refine TL_pure rfl rfl rfl rfl (op_assign rfl) ?_
        refine TL_pure rfl rfl rfl rfl (op_assign rfl) ?_
        refine TL_pure rfl rfl rfl rfl (op_assign rfl) ?_
        refine TL_nil ?_
        refine T_keepH [4, 5, 6] [11] rfl rfl rfl rfl (by rw [hF]; rfl) ?_
        refine T_freeze 11 (by rw [hF]; rfl) rfl rfl rfl ?_
        refine T_ret ?_
        obtain rfl := someI hm
        refine ⟨[_, _, _], [], ⟨rfl, rfl, rfl, trivial⟩, ?_, rfl, rfl, rfl, rfl⟩
        rfl
      · unfold m_spec_l06Stage_A1 at hm
        obtain rfl := someI hm
        refine ⟨[_, _, _], [], ⟨rfl, rfl, rfl, trivial⟩, ?_, rfl, rfl, rfl, rfl⟩
        rfl
    · unfold m_spec_l06Stage_L1 at hm
      refine T_seq ?_
      refine T_seq ?_
      refine T_region ?_
      refine TL_pure rfl rfl rfl rfl (op_move rfl) ?_
      refine TL_pure rfl rfl rfl rfl (op_move rfl) ?_
      refine TL_pure rfl rfl rfl rfl (op_lenT Try.underlying84 rfl (List.length_map _)) ?_
      refine TL_fact (fun _ _ _ hr => RelP.slLen (i := 40) rfl hr) (fun hlen41 => ?_)
      rw [List.length_map] at hlen41
      refine TL_pure rfl rfl rfl rfl (op_lss rfl rfl) ?_
      refine TL_nil ?_
      refine T_cond rfl (fun hq => ?_) (fun hq => ?_)
      · replace hm := condT hq hm
        refine T_skip ?_
        refine T_seq ?_
        refine T_block ?_
        refine T_seq ?_
        refine T_region ?_
        refine TL_pure rfl rfl rfl rfl (op_assign rfl) ?_
        refine TL_nil ?_
        refine T_block ?_
        refine T_keepH [0, 1, 7, 9, 10, 11] [11] rfl rfl rfl rfl (by rw [hF]; rfl) ?_
        refine T_loop ?_
        obtain ⟨u2, hl2, hm⟩ := bindS hm
        refine TR_iter2 (m_spec_l06Stage_L2 p0 p1 s1) (fun (s2 : (List l06Row) × Int) => ⟨[(0, .sl 3 (List.map a_l06Row p0)), (1, .int .i64 p1), (7, .ow 11), (9, .int .i64 (u0.length : Int)), (10, .int .i64 s1.2), (11, .int .i64 s2.2)], [(11, .arr ⟨false, false⟩ 3 91 (List.map a_l06Row s2.1))]⟩) (fun u2 => match u2 with | .inl u2 => .exit 4 | .inr u2 => .ret) (fun u2 => match u2 with | .inl u2 => ⟨[(0, .sl 3 (List.map a_l06Row p0)), (1, .int .i64 p1), (7, .ow 11), (9, .int .i64 (u0.length : Int)), (10, .int .i64 s1.2)], [(11, .arr ⟨false, false⟩ 3 91 (List.map a_l06Row u2))]⟩ | .inr u2 => ⟨[(4, .sl 3 (List.map a_l06Row u2.1)), (5, .int .i64 u2.2.1), (6, .bool u2.2.2)], []⟩) (fun u2 => m_spec_l06Stage_A2 s1 u2 = some c1) hl2 hm (fun u2 hm => ?_) (fun hx2 s2 c2 hm hc2 => ?_)
        · rcases u2 with u2 | u2
          · unfold m_spec_l06Stage_A2 at hm
            refine T_region ?_
            refine TL_pure rfl rfl rfl rfl (op_move rfl) ?_
            refine TL_pure rfl rfl rfl rfl (op_addW rfl rfl) ?_
            refine TL_pure rfl rfl rfl rfl (op_assign rfl) ?_
            refine TL_nil ?_
            refine TR_keepH [0, 1, 7, 9, 10] [11] rfl rfl rfl rfl (by rw [hF]; rfl) ?_
            obtain rfl := someI hm
            have hn := CtlOK_next hc1
            exact hn _ rfl
          · unfold m_spec_l06Stage_A2 at hm
            obtain rfl := someI hm
            have hn := CtlOK_out hc1
            exact hx1 (.inr (u2.1, u2.2.1, u2.2.2)) hn
        · unfold m_spec_l06Stage_L2 at hm
          refine T_seq ?_
          refine T_seq ?_
          refine T_region ?_
          refine TL_pure rfl rfl rfl rfl (op_move rfl) ?_
          refine TL_pure rfl rfl rfl rfl (op_move rfl) ?_
          refine TL_pure rfl rfl rfl rfl (op_lenT Try.underlying84 rfl (List.length_map _)) ?_
          refine TL_pure rfl rfl rfl rfl (op_lss rfl rfl) ?_
          refine TL_nil ?_
          refine T_cond rfl (fun hq => ?_) (fun hq => ?_)
          · replace hm := condT hq hm
            refine T_skip ?_
            refine T_seq ?_
            refine T_block ?_
            refine T_seq ?_
            refine T_seq ?_
            refine T_region ?_
            refine TL_pure rfl rfl rfl rfl (op_move rfl) ?_
            refine TL_pure rfl rfl rfl rfl (op_move rfl) ?_
            obtain ⟨x53, hx53, hm⟩ := bindS hm
            refine TL_pure rfl rfl rfl rfl (op_indexT el84 rfl rfl hx53 rfl) ?_
            refine TL_pure rfl rfl rfl rfl (op_fieldAddrC (n := 1) fa91_1 rfl rfl rfl) ?_
            refine TL_pure rfl rfl rfl rfl (op_load_one ag26 rfl rfl) ?_
            refine TL_pure rfl rfl rfl rfl (op_move rfl) ?_
            obtain ⟨x57, hx57, hm⟩ := bindS hm
            refine TL_pure rfl rfl rfl rfl (op_indexT el26 rfl rfl hx57 rfl) ?_
            refine TL_pure rfl rfl rfl rfl (op_load_one ag2 rfl rfl) ?_
            refine TL_pure rfl rfl rfl rfl (op_leq rfl rfl) ?_
            refine TL_pure rfl rfl rfl rfl (op_move rfl) ?_
            refine TL_split 60 rfl rfl rfl (fun hq => ?_) (fun hq => ?_)
            · replace hm := condT hq hm
              refine TL_pass rfl rfl rfl rfl rfl rfl rfl ?_
              refine TL_pass rfl rfl rfl rfl rfl rfl rfl ?_
              refine TL_pass rfl rfl rfl rfl rfl rfl rfl ?_
              refine TL_pass rfl rfl rfl rfl rfl rfl rfl ?_
              refine TL_pass rfl rfl rfl rfl rfl rfl rfl ?_
              refine TL_pass rfl rfl rfl rfl rfl rfl rfl ?_
              refine TL_pass rfl rfl rfl rfl rfl rfl rfl ?_
              refine TL_pass rfl rfl rfl rfl rfl rfl rfl ?_
              refine TL_pass rfl rfl rfl rfl rfl rfl rfl ?_
              refine TL_pure rfl rfl rfl rfl (op_pick_true rfl rfl) ?_
              refine TL_nil ?_
              refine T_cond_true rfl ?_
              refine T_exit ?_
              refine T_region ?_
              refine TL_pure rfl rfl rfl rfl (op_move rfl) ?_
              refine TL_pure rfl rfl rfl rfl (op_addW rfl rfl) ?_
              refine TL_pure rfl rfl rfl rfl (op_assign rfl) ?_
              refine TL_nil ?_
              refine TR_keepH [0, 1, 7, 9, 10, 11] [11] rfl rfl rfl rfl (by rw [hF]; rfl) ?_
              obtain rfl := someI hm
              have hn := CtlOK_next hc2
              exact hn _ rfl
            · replace hm := condF hq hm
              refine TL_want rfl rfl ?_
              refine TL_pure rfl rfl rfl rfl (op_move rfl) ?_
              refine TL_want rfl rfl ?_
              refine TL_pure rfl rfl rfl rfl (op_move rfl) ?_
              refine TL_want rfl rfl ?_
              obtain ⟨x63, hx63, hm⟩ := bindS hm
              refine TL_pure rfl rfl rfl rfl (op_indexT el84 rfl rfl hx63 rfl) ?_
              refine TL_want rfl rfl ?_
              refine TL_pure rfl rfl rfl rfl (op_fieldAddrC (n := 1) fa91_1 rfl rfl rfl) ?_
              refine TL_want rfl rfl ?_
              refine TL_pure rfl rfl rfl rfl (op_load_one ag26 rfl rfl) ?_
              refine TL_want rfl rfl ?_
              refine TL_pure rfl rfl rfl rfl (op_move rfl) ?_
              refine TL_want rfl rfl ?_
              obtain ⟨x67, hx67, hm⟩ := bindS hm
              refine TL_pure rfl rfl rfl rfl (op_indexT el26 rfl rfl hx67 rfl) ?_
              refine TL_want rfl rfl ?_
              refine TL_pure rfl rfl rfl rfl (op_load_one ag2 rfl rfl) ?_
              refine TL_want rfl rfl ?_
              refine TL_pure rfl rfl rfl rfl (op_geq rfl rfl) ?_
              refine TL_pure rfl rfl rfl rfl (op_pick_false rfl rfl) ?_
              refine TL_nil ?_
              refine T_cond rfl (fun hq => ?_) (fun hq => ?_)
              · replace hm := condT hq hm
                refine T_exit ?_
                refine T_region ?_
                refine TL_pure rfl rfl rfl rfl (op_move rfl) ?_
                refine TL_pure rfl rfl rfl rfl (op_addW rfl rfl) ?_
                refine TL_pure rfl rfl rfl rfl (op_assign rfl) ?_
                refine TL_nil ?_
                refine TR_keepH [0, 1, 7, 9, 10, 11] [11] rfl rfl rfl rfl (by rw [hF]; rfl) ?_
                obtain rfl := someI hm
                have hn := CtlOK_next hc2
                exact hn _ rfl
              · replace hm := condF hq hm
                refine T_skip ?_
                refine T_join (fun (j0 : Int × (List Int) × (List Int) × Bool) => ⟨[(0, .sl 3 (List.map a_l06Row p0)), (1, .int .i64 p1), (7, .ow 11), (9, .int .i64 (u0.length : Int)), (10, .int .i64 s1.2), (11, .int .i64 s2.2), (12, .ptr 173 0 0), (13, .bool j0.2.2.2), (61, .sl 3 (List.map a_l06Row p0)), (62, .int .i64 s2.2), (63, .cp [.int .i64 x63.c, .sl 1 (List.map a_i64 x63.list), .sl 1 (List.map a_i64 x63.times)]), (64, .cp [.sl 1 (List.map a_i64 x63.list)]), (65, .sl 1 (List.map a_i64 x63.list)), (66, .int .i64 p1), (67, .cp [.int .i64 x67]), (68, .int .i64 x67), (69, .bool (decide ((0 : Int) ≤ x67)))], [(11, .arr ⟨false, false⟩ 3 91 (List.map a_l06Row s2.1)), (170, .arr ⟨false, true⟩ 1 2 (List.map a_i64 j0.2.1)), (171, .arr ⟨false, true⟩ 1 2 (List.map a_i64 j0.2.2.1)), (173, .box [.int .i64 j0.1, .ow 170, .ow 171])]⟩) (fun j0 => m_spec_l06Stage_J0 s2 j0 = some c2) (fun j0 hm => ?_) (fun hj0 => ?_)
                · unfold m_spec_l06Stage_J0 at hm
                  refine T_seq ?_
                  refine T_seq ?_
                  refine T_region ?_
                  refine TL_pure rfl rfl rfl rfl (op_move rfl) ?_
                  refine TL_pure rfl rfl rfl rfl (op_not rfl) ?_
                  refine TL_pure rfl rfl rfl rfl (op_move rfl) ?_
                  refine TL_join 4 (fun _ : Unit => ⟨[(0, .sl 3 (List.map a_l06Row p0)), (1, .int .i64 p1), (7, .ow 11), (9, .int .i64 (u0.length : Int)), (10, .int .i64 s1.2), (11, .int .i64 s2.2), (12, .ptr 173 0 0), (61, .sl 3 (List.map a_l06Row p0)), (62, .int .i64 s2.2), (63, .cp [.int .i64 x63.c, .sl 1 (List.map a_i64 x63.list), .sl 1 (List.map a_i64 x63.times)]), (64, .cp [.sl 1 (List.map a_i64 x63.list)]), (65, .sl 1 (List.map a_i64 x63.list)), (66, .int .i64 p1), (67, .cp [.int .i64 x67]), (68, .int .i64 x67), (69, .bool (decide ((0 : Int) ≤ x67))), (88, .bool ((!j0.2.2.2) || (decide ((s2.1.length : Int) = (60 : Int)))))], [(11, .arr ⟨false, false⟩ 3 91 (List.map a_l06Row s2.1)), (170, .arr ⟨false, true⟩ 1 2 (List.map a_i64 j0.2.1)), (171, .arr ⟨false, true⟩ 1 2 (List.map a_i64 j0.2.2.1)), (173, .box [.int .i64 j0.1, .ow 170, .ow 171])]⟩) (fun _ => True) (fun _ _ => ?_) (fun hjj => ?_)
                  · refine TL_nil ?_
                    refine T_cond rfl (fun hq => ?_) (fun hq => ?_)
                    · replace hm := condT hq hm
                      refine T_seq ?_
                      refine T_region ?_
                      refine TL_pure rfl rfl rfl rfl (op_assign rfl) ?_
                      refine TL_pure rfl rfl rfl rfl (op_assign rfl) ?_
                      refine TL_pure rfl rfl rfl rfl (op_assign rfl) ?_
                      refine TL_nil ?_
                      refine T_keepH [4, 5, 6] [] rfl rfl rfl rfl (by rw [hF]; rfl) ?_
                      refine T_nilAt 4 (x' := .sl 3 (List.map a_l06Row ([] : List l06Row))) rfl (.inr ⟨_, rfl⟩) rfl ?_
                      refine T_ret ?_
                      obtain rfl := someI hm
                      have hn := CtlOK_out hc2
                      exact hx2 (.inr (([] : List l06Row), (0 : Int), false)) hn
                    · replace hm := condF hq hm
                      refine T_skip ?_
                      refine T_region ?_
                      refine TL_pure rfl rfl rfl rfl (op_move rfl) ?_
                      refine TL_pure rfl rfl rfl rfl (op_load_agg ag91 sz91 rfl rfl rfl) ?_
                      refine TL_freeze 170 (by rw [hF]; rfl) rfl rfl rfl ?_
                      refine TL_freeze 171 (by rw [hF]; rfl) rfl rfl rfl ?_
                      refine TL_buildSlice 176 (es := List.map a_l06Row [(l06Row.mk j0.1 j0.2.1 j0.2.2.1)]) el84 z91 rfl rfl rfl rfl rfl rfl rfl rfl rfl ?_
                      obtain ⟨q92, hq92, hm⟩ := bindS hm
                      refine TL_appendT (f := a_l06Row) (a := s2.1) (b := [(l06Row.mk j0.1 j0.2.1 j0.2.2.1)]) el84 z91 rfl rfl rfl rfl rfl rfl rfl (capI_spec hq92) rfl rfl rfl rfl rfl ?_
                      refine TL_pure rfl rfl rfl rfl (op_assign rfl) ?_
                      refine TL_nil ?_
                      refine T_region ?_
                      refine TL_pure rfl rfl rfl rfl (op_move rfl) ?_
                      refine TL_pure rfl rfl rfl rfl (op_addW rfl rfl) ?_
                      refine TL_pure rfl rfl rfl rfl (op_assign rfl) ?_
                      refine TL_nil ?_
                      refine TR_keepH [0, 1, 7, 9, 10, 11] [11] rfl rfl rfl rfl (by rw [hF]; rfl) ?_
                      obtain rfl := someI hm
                      have hn := CtlOK_next hc2
                      exact hn _ rfl
                  · refine TL_split 84 rfl rfl rfl (fun hq => ?_) (fun hq => ?_)
                    · refine TL_pass rfl rfl rfl rfl rfl rfl rfl ?_
                      refine TL_pass rfl rfl rfl rfl rfl rfl rfl ?_
                      refine TL_pass rfl rfl rfl rfl rfl rfl rfl ?_
                      refine TL_pure rfl rfl rfl rfl (op_pick_true rfl rfl) ?_
                      refine TL_keepH [0, 1, 7, 9, 10, 11, 12, 61, 62, 63, 64, 65, 66, 67, 68, 69, 88] [11, 170, 171, 173] rfl rfl rfl rfl (by rw [hF]; rfl) ?_
                      exact TL_cast _ (by rw [hq]; rfl) (hjj () trivial)
                    · refine TL_want rfl rfl ?_
                      refine TL_pure rfl rfl rfl rfl (op_move rfl) ?_
                      refine TL_want rfl rfl ?_
                      refine TL_pure rfl rfl rfl rfl (op_lenO Try.underlying84 rfl rfl (List.length_map _)) ?_
                      refine TL_fact (fun _ _ _ hr => RelP.owLen (id := 11) rfl hr) (fun hlen86 => ?_)
                      rw [List.length_map] at hlen86
                      refine TL_want rfl rfl ?_
                      refine TL_pure rfl rfl rfl rfl (op_eql rfl rfl) ?_
                      refine TL_pure rfl rfl rfl rfl (op_pick_false rfl rfl) ?_
                      refine TL_keepH [0, 1, 7, 9, 10, 11, 12, 61, 62, 63, 64, 65, 66, 67, 68, 69, 88] [11, 170, 171, 173] rfl rfl rfl rfl (by rw [hF]; rfl) ?_
                      exact TL_cast _ (by rw [hq]; rfl) (hjj () trivial)
                · refine T_drawZ [12] mix (by kernel_rfl) rfl ?_
                  obtain ⟨r79, hr79, hm⟩ := bindS hm
                  refine TZ_pure 0 (by kernel_rfl) rfl rfl rfl rfl rfl (op_move rfl) ?_
                  refine TZ_pure 1 (by kernel_rfl) rfl rfl rfl rfl rfl (op_move rfl) ?_
                  refine TZ_pure 2 (by kernel_rfl) rfl rfl rfl rfl rfl (op_indexT el84 rfl rfl hx53 rfl) ?_
                  refine TZ_pure 3 (by kernel_rfl) rfl rfl rfl rfl rfl (op_move rfl) ?_
                  refine TZ_pure 4 (by kernel_rfl) rfl rfl rfl rfl rfl (op_move rfl) ?_
                  refine TZ_pure 5 (by kernel_rfl) rfl rfl rfl rfl rfl (op_indexT el84 rfl rfl hx63 rfl) ?_
                  refine TZ_pure 6 (by kernel_rfl) rfl rfl rfl rfl rfl (op_move rfl) ?_
                  refine TZ_each [7, 11] (by kernel_rfl) rfl ?_
                  refine ⟨?_, ?_⟩
                  · refine ⟨_, rfl, ?_⟩
                    refine TL_callO [(1000, 180), (1001, 181)] (c_spec_l06Mix x53 x63 p1 r79 hr79) Try.call101 rfl rfl rfl rfl rfl rfl rfl rfl rfl rfl rfl rfl rfl ?_
                    refine TL_nil ?_
                    refine TZ_pure 8 (by kernel_rfl) rfl rfl rfl rfl rfl (op_move rfl) ?_
                    refine TZ_pure 9 (by kernel_rfl) rfl rfl rfl rfl rfl (op_extract rfl rfl) ?_
                    refine TZ_pure 10 (by kernel_rfl) rfl rfl rfl rfl rfl (op_extract rfl rfl) ?_
                    refine TZ_one 11 (by kernel_rfl) rfl ?_
                    refine TL_alloc 183 z91 rfl rfl rfl rfl rfl rfl rfl ?_
                    refine TL_nil ?_
                    refine TZ_one 12 (by kernel_rfl) rfl ?_
                    refine TL_store_box sz91 rfl rfl rfl rfl rfl rfl rfl rfl rfl ?_
                    refine TL_nil ?_
                    refine TZ_pure 13 (by kernel_rfl) rfl rfl rfl rfl rfl (op_assign rfl) ?_
                    refine TZ_done (by kernel_rfl) ?_
                    refine T_keepH [0, 1, 7, 9, 10, 11, 12, 13, 61, 62, 63, 64, 65, 66, 67, 68, 69] [11, 180, 181, 183] rfl rfl rfl rfl (by rw [hF]; rfl) ?_
                    refine T_ren [(11, 11), (180, 170), (181, 171), (183, 173)] rfl rfl rfl (by rw [hF]; rfl) ?_
                    exact hj0 (r79.1.c, r79.1.list, r79.1.times, r79.2) hm
                  · refine ⟨_, rfl, ?_⟩
                    refine TL_alloc 182 z91 rfl rfl rfl rfl rfl rfl rfl ?_
                    refine TL_nil ?_
                    refine TZ_one 7 (by kernel_rfl) rfl ?_
                    refine TL_callO [(1000, 184), (1001, 185)] (c_spec_l06Mix x53 x63 p1 r79 hr79) Try.call101 rfl rfl rfl rfl rfl rfl rfl rfl rfl rfl rfl rfl rfl ?_
                    refine TL_nil ?_
                    refine TZ_pure 8 (by kernel_rfl) rfl rfl rfl rfl rfl (op_move rfl) ?_
                    refine TZ_pure 9 (by kernel_rfl) rfl rfl rfl rfl rfl (op_extract rfl rfl) ?_
                    refine TZ_pure 10 (by kernel_rfl) rfl rfl rfl rfl rfl (op_extract rfl rfl) ?_
                    refine TZ_one 12 (by kernel_rfl) rfl ?_
                    refine TL_store_box sz91 rfl rfl rfl rfl rfl rfl rfl rfl rfl ?_
                    refine TL_nil ?_
                    refine TZ_pure 13 (by kernel_rfl) rfl rfl rfl rfl rfl (op_assign rfl) ?_
                    refine TZ_done (by kernel_rfl) ?_
                    refine T_keepH [0, 1, 7, 9, 10, 11, 12, 13, 61, 62, 63, 64, 65, 66, 67, 68, 69] [11, 182, 184, 185] rfl rfl rfl rfl (by rw [hF]; rfl) ?_
                    refine T_ren [(11, 11), (182, 173), (184, 170), (185, 171)] rfl rfl rfl (by rw [hF]; rfl) ?_
                    refine T_keepH [0, 1, 7, 9, 10, 11, 12, 13, 61, 62, 63, 64, 65, 66, 67, 68, 69] [11, 170, 171, 173] rfl rfl rfl rfl (by rw [hF]; rfl) ?_
                    exact hj0 (r79.1.c, r79.1.list, r79.1.times, r79.2) hm
          · replace hm := condF hq hm
            refine T_keepH [0, 1, 7, 9, 10] [11] rfl rfl rfl rfl (by rw [hF]; rfl) ?_
            refine T_exit ?_
            obtain rfl := someI hm
            have hn := CtlOK_out hc2
            exact hx2 (.inl s2.1) hn
      · replace hm := condF hq hm
        refine T_keepH [7, 9] [11] rfl rfl rfl rfl (by rw [hF]; rfl) ?_
        refine T_exit ?_
        obtain rfl := someI hm
        have hn := CtlOK_out hc1
        exact hx1 (.inl s1.1) hn
  · unfold m_spec_l06Stage_L0 at hm
    refine T_seq ?_
    refine T_seq ?_
    refine T_region ?_
    refine TL_pure rfl rfl rfl rfl (op_move rfl) ?_
    refine TL_pure rfl rfl rfl rfl (op_move rfl) ?_
    refine TL_pure rfl rfl rfl rfl (op_lenT Try.underlying84 rfl (List.length_map _)) ?_
    refine TL_fact (fun _ _ _ hr => RelP.slLen (i := 16) rfl hr) (fun hlen17 => ?_)
    rw [List.length_map] at hlen17
    refine TL_pure rfl rfl rfl rfl (op_lss rfl rfl) ?_
    refine TL_nil ?_
    refine T_cond rfl (fun hq => ?_) (fun hq => ?_)
    · replace hm := condT hq hm
      refine T_skip ?_
      refine T_seq ?_
      refine T_block ?_
      refine T_seq ?_
      refine T_region ?_
      refine TL_pure rfl rfl rfl rfl (op_move rfl) ?_
      refine TL_pure rfl rfl rfl rfl (op_move rfl) ?_
      obtain ⟨x23, hx23, hm⟩ := bindS hm
      refine TL_pure rfl rfl rfl rfl (op_indexT el84 rfl rfl hx23 rfl) ?_
      refine TL_pure rfl rfl rfl rfl (op_fieldAddrC (n := 1) fa91_1 rfl rfl rfl) ?_
      refine TL_pure rfl rfl rfl rfl (op_load_one ag26 rfl rfl) ?_
      refine TL_pure rfl rfl rfl rfl (op_move rfl) ?_
      obtain ⟨x27, hx27, hm⟩ := bindS hm
      refine TL_pure rfl rfl rfl rfl (op_indexT el26 rfl rfl hx27 rfl) ?_
      refine TL_pure rfl rfl rfl rfl (op_load_one ag2 rfl rfl) ?_
      refine TL_pure rfl rfl rfl rfl (op_eql rfl rfl) ?_
      refine TL_nil ?_
      refine T_cond rfl (fun hq => ?_) (fun hq => ?_)
      · replace hm := condT hq hm
        refine T_region ?_
        refine TL_pure rfl rfl rfl rfl (op_move rfl) ?_
        refine TL_pure rfl rfl rfl rfl (op_move rfl) ?_
        refine TL_pure rfl rfl rfl rfl (op_move rfl) ?_
        refine TL_pure rfl rfl rfl rfl (op_indexT el84 rfl rfl hx23 rfl) ?_
        refine TL_pure rfl rfl rfl rfl (op_load_agg ag91 sz91 rfl rfl rfl) ?_
        refine TL_buildSlice 14 (es := List.map a_l06Row [x23]) el84 z91 rfl rfl rfl rfl rfl rfl rfl rfl rfl ?_
        obtain ⟨q36, hq36, hm⟩ := bindS hm
        refine TL_appendT (f := a_l06Row) (a := s0.1) (b := [x23]) el84 z91 rfl rfl rfl rfl rfl rfl rfl (capI_spec hq36) rfl rfl rfl rfl rfl ?_
        refine TL_pure rfl rfl rfl rfl (op_assign rfl) ?_
        refine TL_nil ?_
        refine T_region ?_
        refine TL_pure rfl rfl rfl rfl (op_move rfl) ?_
        refine TL_pure rfl rfl rfl rfl (op_addW rfl rfl) ?_
        refine TL_pure rfl rfl rfl rfl (op_assign rfl) ?_
        refine TL_nil ?_
        refine TR_keepH [0, 1, 7, 8] [11] rfl rfl rfl rfl (by rw [hF]; rfl) ?_
        obtain rfl := someI hm
        have hn := CtlOK_next hc0
        exact hn _ rfl
      · replace hm := condF hq hm
        refine T_skip ?_
        refine T_region ?_
        refine TL_pure rfl rfl rfl rfl (op_move rfl) ?_
        refine TL_pure rfl rfl rfl rfl (op_addW rfl rfl) ?_
        refine TL_pure rfl rfl rfl rfl (op_assign rfl) ?_
        refine TL_nil ?_
        refine TR_keepH [0, 1, 7, 8] [11] rfl rfl rfl rfl (by rw [hF]; rfl) ?_
        obtain rfl := someI hm
        have hn := CtlOK_next hc0
        exact hn _ rfl
    · replace hm := condF hq hm
      refine T_keepH [0, 1, 7] [11] rfl rfl rfl rfl (by rw [hF]; rfl) ?_
      refine T_exit ?_
      obtain rfl := someI hm
      have hn := CtlOK_out hc0
      exact hx0 s0.1 hn
theorem c_spec_l06Every (p0 : List Term) (out : (List l06Row) × (List l06Row) × Bool) (hm : m_spec_l06Every p0 = some out) : ACall Try.prog 97 [.sl 2 (List.map a_Term p0)] [] (.tup [.sl 3 (List.map a_l06Row out.1), .sl 3 (List.map a_l06Row out.2.1), .bool out.2.2]) [] := by
  refine ACall.intro Try.func97 rfl Try.ntmps97 rfl (fun F hF => ?_)
  unfold m_spec_l06Every at hm
  refine T_seq ?_
  refine T_region ?_
  refine TL_pure rfl rfl rfl rfl (op_assign rfl) ?_
  refine TL_pure rfl rfl rfl rfl (op_assign rfl) ?_
  refine TL_pure rfl rfl rfl rfl (op_assign rfl) ?_
  refine TL_nil ?_
  refine T_seq ?_
  refine T_region ?_
  refine TL_pure rfl rfl rfl rfl (op_move rfl) ?_
  obtain ⟨r12, hr12, hm⟩ := bindS hm
  refine TL_callO [(1000, 11)] (c_spec_l06Rows p0 r12 hr12) Try.call59 rfl rfl rfl rfl rfl rfl rfl rfl rfl rfl rfl rfl rfl ?_
  refine TL_pure rfl rfl rfl rfl (op_assign rfl) ?_
  refine TL_nil ?_
  refine T_seq ?_
  refine T_region ?_
  refine TL_buildSlice 12 (es := List.map a_l06Row ([] : List l06Row)) el84 z91 rfl rfl rfl rfl rfl rfl rfl rfl rfl ?_
  refine TL_pure rfl rfl rfl rfl (op_assign rfl) ?_
  refine TL_nil ?_
  refine T_seq ?_
  refine T_seq ?_
  refine T_region ?_
  refine TL_pure rfl rfl rfl rfl (op_assign rfl) ?_
  refine TL_nil ?_
  refine T_block ?_
  refine T_keepH [5, 6, 7] [11, 12] rfl rfl rfl rfl (by rw [hF]; rfl) ?_
  refine T_freeze 11 (by rw [hF]; rfl) rfl rfl rfl ?_
  refine T_loop ?_
  obtain ⟨u0, hl0, hm⟩ := bindS hm
  refine TR_iter2 (m_spec_l06Every_L0) (fun (s0 : (List l06Row) × (List l06Row) × Int) => ⟨[(5, .sl 3 (List.map a_l06Row s0.1)), (6, .ow 12), (7, .int .i64 s0.2.2)], [(12, .arr ⟨false, false⟩ 3 91 (List.map a_l06Row s0.2.1))]⟩) (fun u0 => match u0 with | .inl u0 => .exit 0 | .inr u0 => .ret) (fun u0 => match u0 with | .inl u0 => ⟨[(5, .sl 3 (List.map a_l06Row u0.1)), (6, .ow 12)], [(12, .arr ⟨false, false⟩ 3 91 (List.map a_l06Row u0.2))]⟩ | .inr u0 => ⟨[(2, .sl 3 (List.map a_l06Row u0.1)), (3, .sl 3 (List.map a_l06Row u0.2.1)), (4, .bool u0.2.2)], []⟩) (fun u0 => m_spec_l06Every_A0 u0 = some out) hl0 hm (fun u0 hm => ?_) (fun hx0 s0 c0 hm hc0 => ?_)
  · rcases u0 with u0 | u0
    · unfold m_spec_l06Every_A0 at hm
      refine T_seq ?_
      refine T_region ?_
      refine TL_pure rfl rfl rfl rfl (op_move rfl) ?_
      refine TL_pure rfl rfl rfl rfl (op_move rfl) ?_
      refine TL_pure rfl rfl rfl rfl (op_assign rfl) ?_
      refine TL_pure rfl rfl rfl rfl (op_assign rfl) ?_
      refine TL_pure rfl rfl rfl rfl (op_assign rfl) ?_
      refine TL_nil ?_
      refine T_keepH [2, 3, 4] [12] rfl rfl rfl rfl (by rw [hF]; rfl) ?_
      refine T_freeze 12 (by rw [hF]; rfl) rfl rfl rfl ?_
      refine T_ret ?_
      obtain rfl := someI hm
      refine ⟨[_, _, _], [], ⟨rfl, rfl, rfl, trivial⟩, ?_, rfl, rfl, rfl, rfl⟩
      rfl
    · unfold m_spec_l06Every_A0 at hm
      obtain rfl := someI hm
      refine ⟨[_, _, _], [], ⟨rfl, rfl, rfl, trivial⟩, ?_, rfl, rfl, rfl, rfl⟩
      rfl
  · unfold m_spec_l06Every_L0 at hm
    refine T_seq ?_
    refine T_seq ?_
    refine T_region ?_
    refine TL_pure rfl rfl rfl rfl (op_move rfl) ?_
    refine TL_pure rfl rfl rfl rfl (op_lss rfl rfl) ?_
    refine TL_nil ?_
    refine T_cond rfl (fun hq => ?_) (fun hq => ?_)
    · replace hm := condT hq hm
      refine T_skip ?_
      refine T_seq ?_
      refine T_block ?_
      refine T_seq ?_
      refine T_region ?_
      refine TL_pure rfl rfl rfl rfl (op_move rfl) ?_
      refine TL_pure rfl rfl rfl rfl (op_move rfl) ?_
      obtain ⟨r21, hr21, hm⟩ := bindS hm
      refine TL_callT (c_spec_l06Stage s0.1 s0.2.2 r21 hr21) Try.call58 rfl rfl rfl rfl rfl ?_
      refine TL_pure rfl rfl rfl rfl (op_move rfl) ?_
      refine TL_pure rfl rfl rfl rfl (op_extract rfl rfl) ?_
      refine TL_pure rfl rfl rfl rfl (op_extract rfl rfl) ?_
      refine TL_pure rfl rfl rfl rfl (op_extract rfl rfl) ?_
      refine TL_pure rfl rfl rfl rfl (op_assign rfl) ?_
      refine TL_pure rfl rfl rfl rfl (op_assign rfl) ?_
      refine TL_pure rfl rfl rfl rfl (op_assign rfl) ?_
      refine TL_nil ?_
      refine T_seq ?_
      refine T_seq ?_
      refine T_region ?_
      refine TL_pure rfl rfl rfl rfl (op_move rfl) ?_
      refine TL_pure rfl rfl rfl rfl (op_not rfl) ?_
      refine TL_nil ?_
      refine T_cond rfl (fun hq => ?_) (fun hq => ?_)
      · replace hm := condT hq hm
        refine T_seq ?_
        refine T_region ?_
        refine TL_pure rfl rfl rfl rfl (op_assign rfl) ?_
        refine TL_pure rfl rfl rfl rfl (op_assign rfl) ?_
        refine TL_pure rfl rfl rfl rfl (op_assign rfl) ?_
        refine TL_nil ?_
        refine T_keepH [2, 3, 4] [] rfl rfl rfl rfl (by rw [hF]; rfl) ?_
        refine T_nilAt 2 (x' := .sl 3 (List.map a_l06Row ([] : List l06Row))) rfl (.inr ⟨_, rfl⟩) rfl ?_
        refine T_nilAt 3 (x' := .sl 3 (List.map a_l06Row ([] : List l06Row))) rfl (.inr ⟨_, rfl⟩) rfl ?_
        refine T_ret ?_
        obtain rfl := someI hm
        have hn := CtlOK_out hc0
        exact hx0 (.inr (([] : List l06Row), ([] : List l06Row), false)) hn
      · replace hm := condF hq hm
        refine T_skip ?_
        refine T_seq ?_
        refine T_region ?_
        refine TL_pure rfl rfl rfl rfl (op_move rfl) ?_
        refine TL_pure rfl rfl rfl rfl (op_move rfl) ?_
        refine TL_pure rfl rfl rfl rfl (op_move rfl) ?_
        obtain ⟨y30, hy30, hm⟩ := bindS hm
        refine TL_pure rfl rfl rfl rfl (op_sliceI el84 rfl ⟨⟨_, rfl⟩, rfl⟩ hy30) ?_
        obtain ⟨q31, hq31, hm⟩ := bindS hm
        refine TL_appendT (f := a_l06Row) (a := s0.2.1) (b := y30) el84 z91 rfl rfl rfl rfl rfl rfl rfl (capI_spec hq31) rfl rfl rfl rfl rfl ?_
        refine TL_pure rfl rfl rfl rfl (op_assign rfl) ?_
        refine TL_nil ?_
        refine T_region ?_
        refine TL_pure rfl rfl rfl rfl (op_move rfl) ?_
        refine TL_pure rfl rfl rfl rfl (op_assign rfl) ?_
        refine TL_nil ?_
        refine T_region ?_
        refine TL_pure rfl rfl rfl rfl (op_move rfl) ?_
        refine TL_pure rfl rfl rfl rfl (op_addW rfl rfl) ?_
        refine TL_pure rfl rfl rfl rfl (op_assign rfl) ?_
        refine TL_nil ?_
        refine TR_keepH [5, 6, 7] [12] rfl rfl rfl rfl (by rw [hF]; rfl) ?_
        obtain rfl := someI hm
        have hn := CtlOK_next hc0
        exact hn _ rfl
    · replace hm := condF hq hm
      refine T_keepH [5, 6] [12] rfl rfl rfl rfl (by rw [hF]; rfl) ?_
      refine T_exit ?_
      obtain rfl := someI hm
      have hn := CtlOK_out hc0
      exact hx0 (.inl (s0.1, s0.2.1)) hn
theorem c_spec_l06Term (p0 : l06Row) (out : Term) (hm : m_spec_l06Term p0 = some out) : ACall Try.prog 60 [.cp [.int .i64 p0.c, .sl 1 (List.map a_i64 p0.list), .sl 1 (List.map a_i64 p0.times)]] [] (.agg [.int .i64 out.Const, .ow 1000]) [(1000, .arr ⟨false, true⟩ 1 2 (List.map a_i64 out.Coeffs))] := by
  refine ACall.intro Try.func60 rfl Try.ntmps60 rfl (fun F hF => ?_)
  unfold m_spec_l06Term at hm
  refine T_seq ?_
  refine T_region ?_
  refine TL_alloc 11 z41 rfl rfl rfl rfl rfl rfl rfl ?_
  refine TL_nil ?_
  refine T_seq ?_
  refine T_drawZ [13] mix (by kernel_rfl) rfl ?_
  obtain ⟨r14, hr14, hm⟩ := bindS hm
  refine TZ_pure 0 (by kernel_rfl) rfl rfl rfl rfl rfl (op_move rfl) ?_
  refine TZ_pure 1 (by kernel_rfl) rfl rfl rfl rfl rfl (op_nilCheck rfl rfl) ?_
  refine TZ_pure 2 (by kernel_rfl) rfl rfl rfl rfl rfl (op_fieldAddrC (n := 1) fa91_0 rfl rfl rfl) ?_
  refine TZ_pure 3 (by kernel_rfl) rfl rfl rfl rfl rfl (op_load_one ag2 rfl rfl) ?_
  refine TZ_pure 4 (by kernel_rfl) rfl rfl rfl rfl rfl (op_move rfl) ?_
  refine TZ_pure 5 (by kernel_rfl) rfl rfl rfl rfl rfl (op_nilCheck rfl rfl) ?_
  refine TZ_pure 6 (by kernel_rfl) rfl rfl rfl rfl rfl (op_fieldAddrC (n := 1) fa91_1 rfl rfl rfl) ?_
  refine TZ_pure 7 (by kernel_rfl) rfl rfl rfl rfl rfl (op_load_one ag26 rfl rfl) ?_
  refine TZ_each [8, 12] (by kernel_rfl) rfl ?_
  refine ⟨?_, ?_⟩
  · refine ⟨_, rfl, ?_⟩
    refine TL_callO [(1000, 14)] (c_spec_l02Make p0.c p0.list r14 hr14) Try.call45 rfl rfl rfl rfl rfl rfl rfl rfl rfl rfl rfl rfl rfl ?_
    refine TL_nil ?_
    refine TZ_pure 9 (by kernel_rfl) rfl rfl rfl rfl rfl (op_move rfl) ?_
    refine TZ_pure 10 (by kernel_rfl) rfl rfl rfl rfl rfl (op_extract rfl rfl) ?_
    refine TZ_pure 11 (by kernel_rfl) rfl rfl rfl rfl rfl (op_extract rfl rfl) ?_
    refine TZ_one 12 (by kernel_rfl) rfl ?_
    refine TL_alloc 16 z41 rfl rfl rfl rfl rfl rfl rfl ?_
    refine TL_nil ?_
    refine TZ_one 13 (by kernel_rfl) rfl ?_
    refine TL_store_box sz41 rfl rfl rfl rfl rfl rfl rfl rfl rfl ?_
    refine TL_nil ?_
    refine TZ_pure 14 (by kernel_rfl) rfl rfl rfl rfl rfl (op_assign rfl) ?_
    refine TZ_done (by kernel_rfl) ?_
    refine T_seq ?_
    refine T_region ?_
    refine TL_pure rfl rfl rfl rfl (op_load_agg ag41 sz41 rfl rfl rfl) ?_
    refine TL_store_box sz41 rfl rfl rfl rfl rfl rfl rfl rfl rfl ?_
    refine TL_nil ?_
    refine T_keepH [2] [11, 14] rfl rfl rfl rfl (by rw [hF]; rfl) ?_
    refine T_ren [(11, 11), (14, 1000)] rfl rfl rfl (by rw [hF]; rfl) ?_
    refine T_ret ?_
    obtain rfl := someI hm
    refine ⟨[_], [1000], ⟨⟨_, _, rfl, rfl, .inr ⟨ag41, _, _, sz41, rfl, rfl⟩⟩, trivial⟩, ?_, rfl, rfl, rfl, rfl⟩
    rfl
  · refine ⟨_, rfl, ?_⟩
    refine TL_alloc 15 z41 rfl rfl rfl rfl rfl rfl rfl ?_
    refine TL_nil ?_
    refine TZ_one 8 (by kernel_rfl) rfl ?_
    refine TL_callO [(1000, 17)] (c_spec_l02Make p0.c p0.list r14 hr14) Try.call45 rfl rfl rfl rfl rfl rfl rfl rfl rfl rfl rfl rfl rfl ?_
    refine TL_nil ?_
    refine TZ_pure 9 (by kernel_rfl) rfl rfl rfl rfl rfl (op_move rfl) ?_
    refine TZ_pure 10 (by kernel_rfl) rfl rfl rfl rfl rfl (op_extract rfl rfl) ?_
    refine TZ_pure 11 (by kernel_rfl) rfl rfl rfl rfl rfl (op_extract rfl rfl) ?_
    refine TZ_one 13 (by kernel_rfl) rfl ?_
    refine TL_store_box sz41 rfl rfl rfl rfl rfl rfl rfl rfl rfl ?_
    refine TL_nil ?_
    refine TZ_pure 14 (by kernel_rfl) rfl rfl rfl rfl rfl (op_assign rfl) ?_
    refine TZ_done (by kernel_rfl) ?_
    refine T_seq ?_
    refine T_region ?_
    refine TL_pure rfl rfl rfl rfl (op_load_agg ag41 sz41 rfl rfl rfl) ?_
    refine TL_store_box sz41 rfl rfl rfl rfl rfl rfl rfl rfl rfl ?_
    refine TL_nil ?_
    refine T_keepH [2] [11, 17] rfl rfl rfl rfl (by rw [hF]; rfl) ?_
    refine T_ren [(11, 11), (17, 1000)] rfl rfl rfl (by rw [hF]; rfl) ?_
    refine T_ret ?_
    obtain rfl := someI hm
    refine ⟨[_], [1000], ⟨⟨_, _, rfl, rfl, .inr ⟨ag41, _, _, sz41, rfl, rfl⟩⟩, trivial⟩, ?_, rfl, rfl, rfl, rfl⟩
    rfl
theorem c_spec_l02Divisor (p0 : Term) (out : Int) (hm : m_spec_l02Divisor p0 = some out) : ACall Try.prog 108 [.cp [.int .i64 p0.Const, .sl 1 (List.map a_i64 p0.Coeffs)]] [] (.int .i64 out) [] := by
  refine ACall.intro Try.func108 rfl Try.ntmps108 rfl (fun F hF => ?_)
  unfold m_spec_l02Divisor at hm
  refine T_seq ?_
  refine T_region ?_
  refine TL_pure rfl rfl rfl rfl (op_assign rfl) ?_
  refine TL_nil ?_
  refine T_seq ?_
  refine T_region ?_
  refine TL_pure rfl rfl rfl rfl (op_assign rfl) ?_
  refine TL_nil ?_
  refine T_seq ?_
  refine T_seq ?_
  refine T_region ?_
  refine TL_pure rfl rfl rfl rfl (op_assign rfl) ?_
  refine TL_nil ?_
  refine T_block ?_
  refine T_keepH [0, 3, 4] [] rfl rfl rfl rfl (by rw [hF]; rfl) ?_
  refine T_loop ?_
  obtain ⟨u0, hl0, hm⟩ := bindS hm
  refine TR_iter2 (m_spec_l02Divisor_L0 p0) (fun (s0 : Int × Int) => ⟨[(0, .cp [.int .i64 p0.Const, .sl 1 (List.map a_i64 p0.Coeffs)]), (3, .int .i64 s0.1), (4, .int .i64 s0.2)], []⟩) (fun u0 => .exit 0) (fun u0 => ⟨[(3, .int .i64 u0)], []⟩) (fun u0 => m_spec_l02Divisor_A0 u0 = some out) hl0 hm (fun u0 hm => ?_) (fun hx0 s0 c0 hm hc0 => ?_)
  · unfold m_spec_l02Divisor_A0 at hm
    refine T_seq ?_
    refine T_region ?_
    refine TL_pure rfl rfl rfl rfl (op_move rfl) ?_
    refine TL_pure rfl rfl rfl rfl (op_assign rfl) ?_
    refine TL_nil ?_
    refine T_keepH [2] [] rfl rfl rfl rfl (by rw [hF]; rfl) ?_
    refine T_ret ?_
    obtain rfl := someI hm
    refine ⟨[_], [], ⟨rfl, trivial⟩, ?_, rfl, rfl, rfl, rfl⟩
    rfl
  · unfold m_spec_l02Divisor_L0 at hm
    refine T_seq ?_
    refine T_seq ?_
    refine T_region ?_
    refine TL_pure rfl rfl rfl rfl (op_move rfl) ?_
    refine TL_pure rfl rfl rfl rfl (op_move rfl) ?_
    refine TL_pure rfl rfl rfl rfl (op_nilCheck rfl rfl) ?_
    refine TL_pure rfl rfl rfl rfl (op_fieldAddr fa41_1 rfl rfl) ?_
    refine TL_pure rfl rfl rfl rfl (op_load_one ag26 rfl rfl) ?_
    refine TL_pure rfl rfl rfl rfl (op_lenT Try.underlying26 rfl (List.length_map _)) ?_
    refine TL_fact (fun _ _ _ hr => RelP.slLen (i := 11) rfl hr) (fun hlen12 => ?_)
    rw [List.length_map] at hlen12
    refine TL_pure rfl rfl rfl rfl (op_lss rfl rfl) ?_
    refine TL_nil ?_
    refine T_cond rfl (fun hq => ?_) (fun hq => ?_)
    · replace hm := condT hq hm
      refine T_skip ?_
      refine T_seq ?_
      refine T_block ?_
      refine T_seq ?_
      refine T_drawZ [] mix (by kernel_rfl) rfl ?_
      obtain ⟨x21, hx21, hm⟩ := bindS hm
      obtain ⟨r31, hr31, hm⟩ := bindS hm
      refine TZ_pure 0 (by kernel_rfl) rfl rfl rfl rfl rfl (op_move rfl) ?_
      refine TZ_pure 1 (by kernel_rfl) rfl rfl rfl rfl rfl (op_nilCheck rfl rfl) ?_
      refine TZ_pure 2 (by kernel_rfl) rfl rfl rfl rfl rfl (op_fieldAddr fa41_1 rfl rfl) ?_
      refine TZ_pure 3 (by kernel_rfl) rfl rfl rfl rfl rfl (op_load_one ag26 rfl rfl) ?_
      refine TZ_pure 4 (by kernel_rfl) rfl rfl rfl rfl rfl (op_move rfl) ?_
      refine TZ_pure 5 (by kernel_rfl) rfl rfl rfl rfl rfl (op_indexT el26 rfl rfl hx21 rfl) ?_
      refine TZ_pure 6 (by kernel_rfl) rfl rfl rfl rfl rfl (op_load_one ag2 rfl rfl) ?_
      refine TZ_pure 7 (by kernel_rfl) rfl rfl rfl rfl rfl (op_move rfl) ?_
      refine TZ_pure 8 (by kernel_rfl) rfl rfl rfl rfl rfl (op_nilCheck rfl rfl) ?_
      refine TZ_pure 9 (by kernel_rfl) rfl rfl rfl rfl rfl (op_fieldAddr fa41_1 rfl rfl) ?_
      refine TZ_pure 10 (by kernel_rfl) rfl rfl rfl rfl rfl (op_load_one ag26 rfl rfl) ?_
      refine TZ_pure 11 (by kernel_rfl) rfl rfl rfl rfl rfl (op_move rfl) ?_
      refine TZ_pure 12 (by kernel_rfl) rfl rfl rfl rfl rfl (op_indexT el26 rfl rfl hx21 rfl) ?_
      refine TZ_pure 13 (by kernel_rfl) rfl rfl rfl rfl rfl (op_load_one ag2 rfl rfl) ?_
      refine TZ_pure 14 (by kernel_rfl) rfl rfl rfl rfl rfl (op_negW rfl) ?_
      refine TZ_one 15 (by kernel_rfl) rfl ?_
      refine TL_callF (c_spec_l00Max x21 (w64 (0 - x21)) r31 hr31) Try.call121 rfl rfl rfl rfl rfl ?_
      refine TL_nil ?_
      refine TZ_pure 16 (by kernel_rfl) rfl rfl rfl rfl rfl (op_assign rfl) ?_
      refine TZ_done (by kernel_rfl) ?_
      refine T_block ?_
      refine T_keepH [0, 3, 4, 5] [] rfl rfl rfl rfl (by rw [hF]; rfl) ?_
      refine T_loop ?_
      obtain ⟨u1, hl1, hm⟩ := bindS hm
      refine TR_iter2 (m_spec_l02Divisor_L1) (fun (s1 : Int × Int) => ⟨[(0, .cp [.int .i64 p0.Const, .sl 1 (List.map a_i64 p0.Coeffs)]), (3, .int .i64 s1.1), (4, .int .i64 s0.2), (5, .int .i64 s1.2)], []⟩) (fun u1 => .exit 2) (fun u1 => ⟨[(0, .cp [.int .i64 p0.Const, .sl 1 (List.map a_i64 p0.Coeffs)]), (3, .int .i64 u1), (4, .int .i64 s0.2)], []⟩) (fun u1 => m_spec_l02Divisor_A1 s0 u1 = some c0) hl1 hm (fun u1 hm => ?_) (fun hx1 s1 c1 hm hc1 => ?_)
      · unfold m_spec_l02Divisor_A1 at hm
        refine T_region ?_
        refine TL_pure rfl rfl rfl rfl (op_move rfl) ?_
        refine TL_pure rfl rfl rfl rfl (op_addW rfl rfl) ?_
        refine TL_pure rfl rfl rfl rfl (op_assign rfl) ?_
        refine TL_nil ?_
        refine TR_keepH [0, 3, 4] [] rfl rfl rfl rfl (by rw [hF]; rfl) ?_
        obtain rfl := someI hm
        have hn := CtlOK_next hc0
        exact hn _ rfl
      · unfold m_spec_l02Divisor_L1 at hm
        refine T_seq ?_
        refine T_seq ?_
        refine T_region ?_
        refine TL_pure rfl rfl rfl rfl (op_move rfl) ?_
        refine TL_pure rfl rfl rfl rfl (op_gtr rfl rfl) ?_
        refine TL_nil ?_
        refine T_cond rfl (fun hq => ?_) (fun hq => ?_)
        · replace hm := condT hq hm
          refine T_skip ?_
          refine T_block ?_
          refine T_seq ?_
          refine T_region ?_
          refine TL_pure rfl rfl rfl rfl (op_move rfl) ?_
          refine TL_pure rfl rfl rfl rfl (op_move rfl) ?_
          obtain ⟨q36, hq36, hm⟩ := bindS hm
          refine TL_pure rfl rfl rfl rfl (op_remT rfl rfl hq36) ?_
          refine TL_pure rfl rfl rfl rfl (op_assign rfl) ?_
          refine TL_nil ?_
          refine T_seq ?_
          refine T_region ?_
          refine TL_pure rfl rfl rfl rfl (op_move rfl) ?_
          refine TL_pure rfl rfl rfl rfl (op_assign rfl) ?_
          refine TL_nil ?_
          refine T_region ?_
          refine TL_pure rfl rfl rfl rfl (op_move rfl) ?_
          refine TL_pure rfl rfl rfl rfl (op_assign rfl) ?_
          refine TL_nil ?_
          refine TR_keepH [0, 3, 4, 5] [] rfl rfl rfl rfl (by rw [hF]; rfl) ?_
          obtain rfl := someI hm
          have hn := CtlOK_next hc1
          exact hn _ rfl
        · replace hm := condF hq hm
          refine T_keepH [0, 3, 4] [] rfl rfl rfl rfl (by rw [hF]; rfl) ?_
          refine T_exit ?_
          obtain rfl := someI hm
          have hn := CtlOK_out hc1
          exact hx1 s1.1 hn
    · replace hm := condF hq hm
      refine T_keepH [3] [] rfl rfl rfl rfl (by rw [hF]; rfl) ?_
      refine T_exit ?_
      obtain rfl := someI hm
      have hn := CtlOK_out hc0
      exact hx0 s0.1 hn
theorem c_spec_l02Tight (p0 : Term) (out : Term × Bool) (hm : m_spec_l02Tight p0 = some out) : ACall Try.prog 80 [.cp [.int .i64 p0.Const, .sl 1 (List.map a_i64 p0.Coeffs)]] [] (.tup [.agg [.int .i64 out.1.Const, .ow 1000], .bool out.2]) [(1000, .arr ⟨false, true⟩ 1 2 (List.map a_i64 out.1.Coeffs))] := by
  refine ACall.intro Try.func80 rfl Try.ntmps80 rfl (fun F hF => ?_)
  unfold m_spec_l02Tight at hm
  refine T_seq ?_
  refine T_region ?_
  refine TL_alloc 11 z41 rfl rfl rfl rfl rfl rfl rfl ?_
  refine TL_pure rfl rfl rfl rfl (op_assign rfl) ?_
  refine TL_nil ?_
  refine T_seq ?_
  refine T_region ?_
  refine TL_pure rfl rfl rfl rfl (op_move rfl) ?_
  obtain ⟨r9, hr9, hm⟩ := bindS hm
  refine TL_callF (c_spec_l02Divisor p0 r9 hr9) Try.call108 rfl rfl rfl rfl rfl ?_
  refine TL_pure rfl rfl rfl rfl (op_assign rfl) ?_
  refine TL_nil ?_
  refine T_seq ?_
  refine T_seq ?_
  refine T_region ?_
  refine TL_pure rfl rfl rfl rfl (op_move rfl) ?_
  refine TL_pure rfl rfl rfl rfl (op_lss rfl rfl) ?_
  refine TL_nil ?_
  refine T_cond rfl (fun hq => ?_) (fun hq => ?_)
  · replace hm := condT hq hm
    refine T_seq ?_
    refine T_region ?_
    refine TL_pure rfl rfl rfl rfl (op_buildP pl41 z41 rfl rfl rfl rfl rfl) ?_
    refine TL_store_box sz41 rfl rfl rfl rfl rfl rfl rfl rfl rfl ?_
    refine TL_pure rfl rfl rfl rfl (op_assign rfl) ?_
    refine TL_nil ?_
    refine T_ownNilBox 11 1 12 ⟨false, true⟩ 2 rfl rfl rfl (sz := 1) rfl rfl rfl rfl ?_
    refine T_keepH [2, 3] [11, 12] rfl rfl rfl rfl (by rw [hF]; rfl) ?_
    refine T_ren [(11, 11), (12, 1000)] rfl rfl rfl (by rw [hF]; rfl) ?_
    refine T_ret ?_
    obtain rfl := someI hm
    refine ⟨[_, _], [1000], ⟨⟨_, _, rfl, rfl, .inr ⟨ag41, _, _, sz41, rfl, rfl⟩⟩, rfl, trivial⟩, ?_, rfl, rfl, rfl, rfl⟩
    rfl
  · replace hm := condF hq hm
    refine T_skip ?_
    refine T_seq ?_
    refine T_region ?_
    refine TL_buildSlice 13 (es := List.map a_i64 ([] : List Int)) el26 z2 rfl rfl rfl rfl rfl rfl rfl rfl rfl ?_
    refine TL_pure rfl rfl rfl rfl (op_assign rfl) ?_
    refine TL_nil ?_
    refine T_seq ?_
    refine T_seq ?_
    refine T_region ?_
    refine TL_pure rfl rfl rfl rfl (op_assign rfl) ?_
    refine TL_nil ?_
    refine T_block ?_
    refine T_keepH [0, 2, 4, 5, 6] [11, 13] rfl rfl rfl rfl (by rw [hF]; rfl) ?_
    refine T_loop ?_
    obtain ⟨u0, hl0, hm⟩ := bindS hm
    refine TR_iter2 (m_spec_l02Tight_L0 p0 r9) (fun (s0 : (List Int) × Int) => ⟨[(0, .cp [.int .i64 p0.Const, .sl 1 (List.map a_i64 p0.Coeffs)]), (2, .ptr 11 0 0), (4, .int .i64 r9), (5, .ow 13), (6, .int .i64 s0.2)], [(11, .box [.int .i64 (0 : Int), .snil]), (13, .arr ⟨false, false⟩ 1 2 (List.map a_i64 s0.1))]⟩) (fun u0 => .exit 0) (fun u0 => ⟨[(0, .cp [.int .i64 p0.Const, .sl 1 (List.map a_i64 p0.Coeffs)]), (2, .ptr 11 0 0), (4, .int .i64 r9), (5, .ow 13)], [(11, .box [.int .i64 (0 : Int), .snil]), (13, .arr ⟨false, false⟩ 1 2 (List.map a_i64 u0))]⟩) (fun u0 => m_spec_l02Tight_A0 p0 r9 u0 = some out) hl0 hm (fun u0 hm => ?_) (fun hx0 s0 c0 hm hc0 => ?_)
    · unfold m_spec_l02Tight_A0 at hm
      refine T_seq ?_
      refine T_region ?_
      refine TL_pure rfl rfl rfl rfl (op_move rfl) ?_
      refine TL_pure rfl rfl rfl rfl (op_nilCheck rfl rfl) ?_
      refine TL_pure rfl rfl rfl rfl (op_fieldAddrC (n := 1) fa41_0 rfl rfl rfl) ?_
      refine TL_pure rfl rfl rfl rfl (op_load_one ag2 rfl rfl) ?_
      refine TL_pure rfl rfl rfl rfl (op_move rfl) ?_
      obtain ⟨q40, hq40, hm⟩ := bindS hm
      refine TL_pure rfl rfl rfl rfl (op_quoT rfl rfl hq40) ?_
      refine TL_pure rfl rfl rfl rfl (op_assign rfl) ?_
      refine TL_nil ?_
      refine T_join (fun (j0 : Int) => ⟨[(2, .ptr 11 0 0), (5, .ow 13), (7, .int .i64 j0)], [(11, .box [.int .i64 (0 : Int), .snil]), (13, .arr ⟨false, false⟩ 1 2 (List.map a_i64 u0))]⟩) (fun j0 => m_spec_l02Tight_J0 u0 j0 = some out) (fun j0 hm => ?_) (fun hj0 => ?_)
      · unfold m_spec_l02Tight_J0 at hm
        refine T_seq ?_
        refine T_region ?_
        refine TL_pure rfl rfl rfl rfl (op_move rfl) ?_
        refine TL_pure rfl rfl rfl rfl (op_move rfl) ?_
        obtain ⟨r52, hr52, hm⟩ := bindS hm
        refine TL_callO [(1000, 17)] (c_spec_l02Make j0 u0 r52 hr52) Try.call45 rfl rfl rfl rfl rfl rfl rfl rfl rfl rfl rfl rfl rfl ?_
        refine TL_pure rfl rfl rfl rfl (op_extract rfl rfl) ?_
        refine TL_pure rfl rfl rfl rfl (op_extract rfl rfl) ?_
        refine TL_store_box sz41 rfl rfl rfl rfl rfl rfl rfl rfl rfl ?_
        refine TL_pure rfl rfl rfl rfl (op_assign rfl) ?_
        refine TL_nil ?_
        refine T_keepH [2, 3] [11, 17] rfl rfl rfl rfl (by rw [hF]; rfl) ?_
        refine T_ren [(11, 11), (17, 1000)] rfl rfl rfl (by rw [hF]; rfl) ?_
        refine T_ret ?_
        obtain rfl := someI hm
        refine ⟨[_, _], [1000], ⟨⟨_, _, rfl, rfl, .inr ⟨ag41, _, _, sz41, rfl, rfl⟩⟩, rfl, trivial⟩, ?_, rfl, rfl, rfl, rfl⟩
        rfl
      · refine T_seq ?_
        refine T_region ?_
        refine TL_pure rfl rfl rfl rfl (op_move rfl) ?_
        refine TL_pure rfl rfl rfl rfl (op_nilCheck rfl rfl) ?_
        refine TL_pure rfl rfl rfl rfl (op_fieldAddrC (n := 1) fa41_0 rfl rfl rfl) ?_
        refine TL_pure rfl rfl rfl rfl (op_load_one ag2 rfl rfl) ?_
        refine TL_pure rfl rfl rfl rfl (op_move rfl) ?_
        obtain ⟨q46, hq46, hm⟩ := bindS hm
        refine TL_pure rfl rfl rfl rfl (op_remT rfl rfl hq46) ?_
        refine TL_pure rfl rfl rfl rfl (op_lss rfl rfl) ?_
        refine TL_nil ?_
        refine T_cond rfl (fun hq => ?_) (fun hq => ?_)
        · replace hm := condT hq hm
          refine T_region ?_
          refine TL_pure rfl rfl rfl rfl (op_move rfl) ?_
          refine TL_pure rfl rfl rfl rfl (op_subW rfl rfl) ?_
          refine TL_pure rfl rfl rfl rfl (op_assign rfl) ?_
          refine TL_nil ?_
          refine T_keepH [2, 5, 7] [11, 13] rfl rfl rfl rfl (by rw [hF]; rfl) ?_
          exact hj0 (w64 (q40 - (1 : Int))) hm
        · replace hm := condF hq hm
          refine T_skip ?_
          refine T_keepH [2, 5, 7] [11, 13] rfl rfl rfl rfl (by rw [hF]; rfl) ?_
          exact hj0 q40 hm
    · unfold m_spec_l02Tight_L0 at hm
      refine T_seq ?_
      refine T_seq ?_
      refine T_region ?_
      refine TL_pure rfl rfl rfl rfl (op_move rfl) ?_
      refine TL_pure rfl rfl rfl rfl (op_move rfl) ?_
      refine TL_pure rfl rfl rfl rfl (op_nilCheck rfl rfl) ?_
      refine TL_pure rfl rfl rfl rfl (op_fieldAddr fa41_1 rfl rfl) ?_
      refine TL_pure rfl rfl rfl rfl (op_load_one ag26 rfl rfl) ?_
      refine TL_pure rfl rfl rfl rfl (op_lenT Try.underlying26 rfl (List.length_map _)) ?_
      refine TL_fact (fun _ _ _ hr => RelP.slLen (i := 18) rfl hr) (fun hlen19 => ?_)
      rw [List.length_map] at hlen19
      refine TL_pure rfl rfl rfl rfl (op_lss rfl rfl) ?_
      refine TL_nil ?_
      refine T_cond rfl (fun hq => ?_) (fun hq => ?_)
      · replace hm := condT hq hm
        refine T_skip ?_
        refine T_seq ?_
        refine T_block ?_
        refine T_region ?_
        refine TL_pure rfl rfl rfl rfl (op_move rfl) ?_
        refine TL_pure rfl rfl rfl rfl (op_move rfl) ?_
        refine TL_pure rfl rfl rfl rfl (op_nilCheck rfl rfl) ?_
        refine TL_pure rfl rfl rfl rfl (op_fieldAddr fa41_1 rfl rfl) ?_
        refine TL_pure rfl rfl rfl rfl (op_load_one ag26 rfl rfl) ?_
        refine TL_pure rfl rfl rfl rfl (op_move rfl) ?_
        obtain ⟨x29, hx29, hm⟩ := bindS hm
        refine TL_pure rfl rfl rfl rfl (op_indexT el26 rfl rfl hx29 rfl) ?_
        refine TL_pure rfl rfl rfl rfl (op_load_one ag2 rfl rfl) ?_
        refine TL_pure rfl rfl rfl rfl (op_move rfl) ?_
        obtain ⟨q32, hq32, hm⟩ := bindS hm
        refine TL_pure rfl rfl rfl rfl (op_quoT rfl rfl hq32) ?_
        refine TL_buildSlice 16 (es := List.map a_i64 [q32]) el26 z2 rfl rfl rfl rfl rfl rfl rfl rfl rfl ?_
        obtain ⟨q34, hq34, hm⟩ := bindS hm
        refine TL_appendT (f := a_i64) (a := s0.1) (b := [q32]) el26 z2 rfl rfl rfl rfl rfl rfl rfl (capI_spec hq34) rfl rfl rfl rfl rfl ?_
        refine TL_pure rfl rfl rfl rfl (op_assign rfl) ?_
        refine TL_nil ?_
        refine T_region ?_
        refine TL_pure rfl rfl rfl rfl (op_move rfl) ?_
        refine TL_pure rfl rfl rfl rfl (op_addW rfl rfl) ?_
        refine TL_pure rfl rfl rfl rfl (op_assign rfl) ?_
        refine TL_nil ?_
        refine TR_keepH [0, 2, 4, 5, 6] [11, 13] rfl rfl rfl rfl (by rw [hF]; rfl) ?_
        obtain rfl := someI hm
        have hn := CtlOK_next hc0
        exact hn _ rfl
      · replace hm := condF hq hm
        refine T_keepH [0, 2, 4, 5] [11, 13] rfl rfl rfl rfl (by rw [hF]; rfl) ?_
        refine T_exit ?_
        obtain rfl := someI hm
        have hn := CtlOK_out hc0
        exact hx0 s0.1 hn
theorem c_spec_l00Same (p0 : List Int) (p1 : List Int) (out : Bool) (hm : m_spec_l00Same p0 p1 = some out) : ACall Try.prog 128 [.sl 1 (List.map a_i64 p0), .sl 1 (List.map a_i64 p1)] [] (.bool out) [] := by
  refine ACall.intro Try.func128 rfl Try.ntmps128 rfl (fun F hF => ?_)
  unfold m_spec_l00Same at hm
  refine T_seq ?_
  refine T_region ?_
  refine TL_pure rfl rfl rfl rfl (op_assign rfl) ?_
  refine TL_nil ?_
  refine T_seq ?_
  refine T_seq ?_
  refine T_region ?_
  refine TL_pure rfl rfl rfl rfl (op_move rfl) ?_
  refine TL_pure rfl rfl rfl rfl (op_lenT Try.underlying26 rfl (List.length_map _)) ?_
  refine TL_fact (fun _ _ _ hr => RelP.slLen (i := 6) rfl hr) (fun hlen7 => ?_)
  rw [List.length_map] at hlen7
  refine TL_pure rfl rfl rfl rfl (op_move rfl) ?_
  refine TL_pure rfl rfl rfl rfl (op_lenT Try.underlying26 rfl (List.length_map _)) ?_
  refine TL_fact (fun _ _ _ hr => RelP.slLen (i := 8) rfl hr) (fun hlen9 => ?_)
  rw [List.length_map] at hlen9
  refine TL_pure rfl rfl rfl rfl (op_neq rfl rfl) ?_
  refine TL_nil ?_
  refine T_cond rfl (fun hq => ?_) (fun hq => ?_)
  · replace hm := condT hq hm
    refine T_seq ?_
    refine T_region ?_
    refine TL_pure rfl rfl rfl rfl (op_assign rfl) ?_
    refine TL_nil ?_
    refine T_keepH [4] [] rfl rfl rfl rfl (by rw [hF]; rfl) ?_
    refine T_ret ?_
    obtain rfl := someI hm
    refine ⟨[_], [], ⟨rfl, trivial⟩, ?_, rfl, rfl, rfl, rfl⟩
    rfl
  · replace hm := condF hq hm
    refine T_skip ?_
    refine T_seq ?_
    refine T_seq ?_
    refine T_region ?_
    refine TL_pure rfl rfl rfl rfl (op_assign rfl) ?_
    refine TL_nil ?_
    refine T_block ?_
    refine T_keepH [0, 1, 5] [] rfl rfl rfl rfl (by rw [hF]; rfl) ?_
    refine T_loop ?_
    obtain ⟨u0, hl0, hm⟩ := bindS hm
    refine TR_iter2 (m_spec_l00Same_L0 p0 p1) (fun (s0 : Int) => ⟨[(0, .sl 1 (List.map a_i64 p0)), (1, .sl 1 (List.map a_i64 p1)), (5, .int .i64 s0)], []⟩) (fun u0 => match u0 with | .inl u0 => .exit 0 | .inr u0 => .ret) (fun u0 => match u0 with | .inl u0 => ⟨[], []⟩ | .inr u0 => ⟨[(4, .bool u0)], []⟩) (fun u0 => m_spec_l00Same_A0 u0 = some out) hl0 hm (fun u0 hm => ?_) (fun hx0 s0 c0 hm hc0 => ?_)
    · rcases u0 with u0 | u0
      · unfold m_spec_l00Same_A0 at hm
        refine T_seq ?_
        refine T_region ?_
        refine TL_pure rfl rfl rfl rfl (op_assign rfl) ?_
        refine TL_nil ?_
        refine T_keepH [4] [] rfl rfl rfl rfl (by rw [hF]; rfl) ?_
        refine T_ret ?_
        obtain rfl := someI hm
        refine ⟨[_], [], ⟨rfl, trivial⟩, ?_, rfl, rfl, rfl, rfl⟩
        rfl
      · unfold m_spec_l00Same_A0 at hm
        obtain rfl := someI hm
        refine ⟨[_], [], ⟨rfl, trivial⟩, ?_, rfl, rfl, rfl, rfl⟩
        rfl
    · unfold m_spec_l00Same_L0 at hm
      refine T_seq ?_
      refine T_seq ?_
      refine T_region ?_
      refine TL_pure rfl rfl rfl rfl (op_move rfl) ?_
      refine TL_pure rfl rfl rfl rfl (op_move rfl) ?_
      refine TL_pure rfl rfl rfl rfl (op_lenT Try.underlying26 rfl (List.length_map _)) ?_
      refine TL_pure rfl rfl rfl rfl (op_lss rfl rfl) ?_
      refine TL_nil ?_
      refine T_cond rfl (fun hq => ?_) (fun hq => ?_)
      · replace hm := condT hq hm
        refine T_skip ?_
        refine T_seq ?_
        refine T_block ?_
        refine T_seq ?_
        refine T_drawZ [] mix (by kernel_rfl) rfl ?_
        obtain ⟨x19, hx19, hm⟩ := bindS hm
        obtain ⟨x23, hx23, hm⟩ := bindS hm
        refine TZ_pure 0 (by kernel_rfl) rfl rfl rfl rfl rfl (op_move rfl) ?_
        refine TZ_pure 1 (by kernel_rfl) rfl rfl rfl rfl rfl (op_move rfl) ?_
        refine TZ_pure 2 (by kernel_rfl) rfl rfl rfl rfl rfl (op_indexT el26 rfl rfl hx19 rfl) ?_
        refine TZ_pure 3 (by kernel_rfl) rfl rfl rfl rfl rfl (op_load_one ag2 rfl rfl) ?_
        refine TZ_pure 4 (by kernel_rfl) rfl rfl rfl rfl rfl (op_move rfl) ?_
        refine TZ_pure 5 (by kernel_rfl) rfl rfl rfl rfl rfl (op_move rfl) ?_
        refine TZ_pure 6 (by kernel_rfl) rfl rfl rfl rfl rfl (op_indexT el26 rfl rfl hx23 rfl) ?_
        refine TZ_pure 7 (by kernel_rfl) rfl rfl rfl rfl rfl (op_load_one ag2 rfl rfl) ?_
        refine TZ_pure 8 (by kernel_rfl) rfl rfl rfl rfl rfl (op_neq rfl rfl) ?_
        refine TZ_done (by kernel_rfl) ?_
        refine T_cond rfl (fun hq => ?_) (fun hq => ?_)
        · replace hm := condT hq hm
          refine T_seq ?_
          refine T_region ?_
          refine TL_pure rfl rfl rfl rfl (op_assign rfl) ?_
          refine TL_nil ?_
          refine T_keepH [4] [] rfl rfl rfl rfl (by rw [hF]; rfl) ?_
          refine T_ret ?_
          obtain rfl := someI hm
          have hn := CtlOK_out hc0
          exact hx0 (.inr false) hn
        · replace hm := condF hq hm
          refine T_skip ?_
          refine T_region ?_
          refine TL_pure rfl rfl rfl rfl (op_move rfl) ?_
          refine TL_pure rfl rfl rfl rfl (op_addW rfl rfl) ?_
          refine TL_pure rfl rfl rfl rfl (op_assign rfl) ?_
          refine TL_nil ?_
          refine TR_keepH [0, 1, 5] [] rfl rfl rfl rfl (by rw [hF]; rfl) ?_
          obtain rfl := someI hm
          have hn := CtlOK_next hc0
          exact hn _ rfl
      · replace hm := condF hq hm
        refine T_keepH [] [] rfl rfl rfl rfl (by rw [hF]; rfl) ?_
        refine T_exit ?_
        obtain rfl := someI hm
        have hn := CtlOK_out hc0
        exact hx0 (.inl ()) hn
theorem c_spec_l02Same (p0 : Term) (p1 : Term) (out : Bool) (hm : m_spec_l02Same p0 p1 = some out) : ACall Try.prog 126 [.cp [.int .i64 p0.Const, .sl 1 (List.map a_i64 p0.Coeffs)], .cp [.int .i64 p1.Const, .sl 1 (List.map a_i64 p1.Coeffs)]] [] (.bool out) [] := by
  refine ACall.intro Try.func126 rfl Try.ntmps126 rfl (fun F hF => ?_)
  unfold m_spec_l02Same at hm
  refine T_seq ?_
  refine T_region ?_
  refine TL_pure rfl rfl rfl rfl (op_assign rfl) ?_
  refine TL_nil ?_
  refine T_seq ?_
  refine T_drawZ [] mix (by kernel_rfl) rfl ?_
  refine TZ_pure 0 (by kernel_rfl) rfl rfl rfl rfl rfl (op_move rfl) ?_
  refine TZ_pure 1 (by kernel_rfl) rfl rfl rfl rfl rfl (op_nilCheck rfl rfl) ?_
  refine TZ_pure 2 (by kernel_rfl) rfl rfl rfl rfl rfl (op_fieldAddrC (n := 1) fa41_0 rfl rfl rfl) ?_
  refine TZ_pure 3 (by kernel_rfl) rfl rfl rfl rfl rfl (op_load_one ag2 rfl rfl) ?_
  refine TZ_pure 4 (by kernel_rfl) rfl rfl rfl rfl rfl (op_move rfl) ?_
  refine TZ_pure 5 (by kernel_rfl) rfl rfl rfl rfl rfl (op_nilCheck rfl rfl) ?_
  refine TZ_pure 6 (by kernel_rfl) rfl rfl rfl rfl rfl (op_fieldAddrC (n := 1) fa41_0 rfl rfl rfl) ?_
  refine TZ_pure 7 (by kernel_rfl) rfl rfl rfl rfl rfl (op_load_one ag2 rfl rfl) ?_
  refine TZ_pure 8 (by kernel_rfl) rfl rfl rfl rfl rfl (op_eql rfl rfl) ?_
  refine TZ_pure 9 (by kernel_rfl) rfl rfl rfl rfl rfl (op_move rfl) ?_
  refine TZ_split 14 rfl rfl rfl (fun hq => ?_) (fun hq => ?_)
  · replace hm := condT hq hm
    obtain ⟨r23, hr23, hm⟩ := bindS hm
    refine TZ_pureW 10 (by kernel_rfl) rfl rfl rfl rfl rfl rfl rfl (op_move rfl) ?_
    refine TZ_pureW 11 (by kernel_rfl) rfl rfl rfl rfl rfl rfl rfl (op_nilCheck rfl rfl) ?_
    refine TZ_pureW 12 (by kernel_rfl) rfl rfl rfl rfl rfl rfl rfl (op_fieldAddr fa41_1 rfl rfl) ?_
    refine TZ_pureW 13 (by kernel_rfl) rfl rfl rfl rfl rfl rfl rfl (op_load_one ag26 rfl rfl) ?_
    refine TZ_pureW 14 (by kernel_rfl) rfl rfl rfl rfl rfl rfl rfl (op_move rfl) ?_
    refine TZ_pureW 15 (by kernel_rfl) rfl rfl rfl rfl rfl rfl rfl (op_nilCheck rfl rfl) ?_
    refine TZ_pureW 16 (by kernel_rfl) rfl rfl rfl rfl rfl rfl rfl (op_fieldAddr fa41_1 rfl rfl) ?_
    refine TZ_pureW 17 (by kernel_rfl) rfl rfl rfl rfl rfl rfl rfl (op_load_one ag26 rfl rfl) ?_
    refine TZ_one 18 (by kernel_rfl) rfl ?_
    refine TL_want rfl rfl ?_
    refine TL_callF (c_spec_l00Same p0.Coeffs p1.Coeffs r23 hr23) Try.call128 rfl rfl rfl rfl rfl ?_
    refine TL_nil ?_
    refine TZ_pure 19 (by kernel_rfl) rfl rfl rfl rfl rfl (op_pick_true rfl rfl) ?_
    refine TZ_pure 20 (by kernel_rfl) rfl rfl rfl rfl rfl (op_assign rfl) ?_
    refine TZ_done (by kernel_rfl) ?_
    refine T_keepH [4] [] rfl rfl rfl rfl (by rw [hF]; rfl) ?_
    refine T_ret ?_
    obtain rfl := someI hm
    refine ⟨[_], [], ⟨rfl, trivial⟩, ?_, rfl, rfl, rfl, rfl⟩
    rfl
  · replace hm := condF hq hm
    refine TZ_pass 10 (by kernel_rfl) rfl rfl rfl rfl rfl rfl rfl rfl ?_
    refine TZ_pass 11 (by kernel_rfl) rfl rfl rfl rfl rfl rfl rfl rfl ?_
    refine TZ_pass 12 (by kernel_rfl) rfl rfl rfl rfl rfl rfl rfl rfl ?_
    refine TZ_pass 13 (by kernel_rfl) rfl rfl rfl rfl rfl rfl rfl rfl ?_
    refine TZ_pass 14 (by kernel_rfl) rfl rfl rfl rfl rfl rfl rfl rfl ?_
    refine TZ_pass 15 (by kernel_rfl) rfl rfl rfl rfl rfl rfl rfl rfl ?_
    refine TZ_pass 16 (by kernel_rfl) rfl rfl rfl rfl rfl rfl rfl rfl ?_
    refine TZ_pass 17 (by kernel_rfl) rfl rfl rfl rfl rfl rfl rfl rfl ?_
    refine TZ_one 18 (by kernel_rfl) rfl ?_
    refine TL_pass rfl rfl rfl rfl rfl rfl rfl ?_
    refine TL_nil ?_
    refine TZ_pure 19 (by kernel_rfl) rfl rfl rfl rfl rfl (op_pick_false rfl rfl) ?_
    refine TZ_pure 20 (by kernel_rfl) rfl rfl rfl rfl rfl (op_assign rfl) ?_
    refine TZ_done (by kernel_rfl) ?_
    refine T_keepH [4] [] rfl rfl rfl rfl (by rw [hF]; rfl) ?_
    refine T_ret ?_
    obtain rfl := someI hm
    refine ⟨[_], [], ⟨rfl, trivial⟩, ?_, rfl, rfl, rfl, rfl⟩
    rfl
theorem c_spec_l06Known (p0 : List Term) (p1 : Term) (out : Bool) (hm : m_spec_l06Known p0 p1 = some out) : ACall Try.prog 120 [.sl 2 (List.map a_Term p0), .cp [.int .i64 p1.Const, .sl 1 (List.map a_i64 p1.Coeffs)]] [] (.bool out) [] := by
  refine ACall.intro Try.func120 rfl Try.ntmps120 rfl (fun F hF => ?_)
  unfold m_spec_l06Known at hm
  refine T_seq ?_
  refine T_region ?_
  refine TL_pure rfl rfl rfl rfl (op_assign rfl) ?_
  refine TL_nil ?_
  refine T_seq ?_
  refine T_seq ?_
  refine T_region ?_
  refine TL_pure rfl rfl rfl rfl (op_assign rfl) ?_
  refine TL_nil ?_
  refine T_block ?_
  refine T_keepH [0, 1, 5] [] rfl rfl rfl rfl (by rw [hF]; rfl) ?_
  refine T_loop ?_
  obtain ⟨u0, hl0, hm⟩ := bindS hm
  refine TR_iter2 (m_spec_l06Known_L0 p0 p1) (fun (s0 : Int) => ⟨[(0, .sl 2 (List.map a_Term p0)), (1, .cp [.int .i64 p1.Const, .sl 1 (List.map a_i64 p1.Coeffs)]), (5, .int .i64 s0)], []⟩) (fun u0 => match u0 with | .inl u0 => .exit 0 | .inr u0 => .ret) (fun u0 => match u0 with | .inl u0 => ⟨[], []⟩ | .inr u0 => ⟨[(4, .bool u0)], []⟩) (fun u0 => m_spec_l06Known_A0 u0 = some out) hl0 hm (fun u0 hm => ?_) (fun hx0 s0 c0 hm hc0 => ?_)
  · rcases u0 with u0 | u0
    · unfold m_spec_l06Known_A0 at hm
      refine T_seq ?_
      refine T_region ?_
      refine TL_pure rfl rfl rfl rfl (op_assign rfl) ?_
      refine TL_nil ?_
      refine T_keepH [4] [] rfl rfl rfl rfl (by rw [hF]; rfl) ?_
      refine T_ret ?_
      obtain rfl := someI hm
      refine ⟨[_], [], ⟨rfl, trivial⟩, ?_, rfl, rfl, rfl, rfl⟩
      rfl
    · unfold m_spec_l06Known_A0 at hm
      obtain rfl := someI hm
      refine ⟨[_], [], ⟨rfl, trivial⟩, ?_, rfl, rfl, rfl, rfl⟩
      rfl
  · unfold m_spec_l06Known_L0 at hm
    refine T_seq ?_
    refine T_seq ?_
    refine T_region ?_
    refine TL_pure rfl rfl rfl rfl (op_move rfl) ?_
    refine TL_pure rfl rfl rfl rfl (op_move rfl) ?_
    refine TL_pure rfl rfl rfl rfl (op_lenT Try.underlying24 rfl (List.length_map _)) ?_
    refine TL_fact (fun _ _ _ hr => RelP.slLen (i := 7) rfl hr) (fun hlen8 => ?_)
    rw [List.length_map] at hlen8
    refine TL_pure rfl rfl rfl rfl (op_lss rfl rfl) ?_
    refine TL_nil ?_
    refine T_cond rfl (fun hq => ?_) (fun hq => ?_)
    · replace hm := condT hq hm
      refine T_skip ?_
      refine T_seq ?_
      refine T_block ?_
      refine T_seq ?_
      refine T_region ?_
      refine TL_pure rfl rfl rfl rfl (op_move rfl) ?_
      refine TL_pure rfl rfl rfl rfl (op_move rfl) ?_
      obtain ⟨x14, hx14, hm⟩ := bindS hm
      refine TL_pure rfl rfl rfl rfl (op_indexT el24 rfl rfl hx14 rfl) ?_
      refine TL_pure rfl rfl rfl rfl (op_move rfl) ?_
      obtain ⟨r16, hr16, hm⟩ := bindS hm
      refine TL_callF (c_spec_l02Same x14 p1 r16 hr16) Try.call126 rfl rfl rfl rfl rfl ?_
      refine TL_nil ?_
      refine T_cond rfl (fun hq => ?_) (fun hq => ?_)
      · replace hm := condT hq hm
        refine T_seq ?_
        refine T_region ?_
        refine TL_pure rfl rfl rfl rfl (op_assign rfl) ?_
        refine TL_nil ?_
        refine T_keepH [4] [] rfl rfl rfl rfl (by rw [hF]; rfl) ?_
        refine T_ret ?_
        obtain rfl := someI hm
        have hn := CtlOK_out hc0
        exact hx0 (.inr true) hn
      · replace hm := condF hq hm
        refine T_skip ?_
        refine T_region ?_
        refine TL_pure rfl rfl rfl rfl (op_move rfl) ?_
        refine TL_pure rfl rfl rfl rfl (op_addW rfl rfl) ?_
        refine TL_pure rfl rfl rfl rfl (op_assign rfl) ?_
        refine TL_nil ?_
        refine TR_keepH [0, 1, 5] [] rfl rfl rfl rfl (by rw [hF]; rfl) ?_
        obtain rfl := someI hm
        have hn := CtlOK_next hc0
        exact hn _ rfl
    · replace hm := condF hq hm
      refine T_keepH [] [] rfl rfl rfl rfl (by rw [hF]; rfl) ?_
      refine T_exit ?_
      obtain rfl := someI hm
      have hn := CtlOK_out hc0
      exact hx0 (.inl ()) hn
theorem c_spec_l06Sharper (p0 : List Term) (p1 : Term) (out : Term × Bool) (hm : m_spec_l06Sharper p0 p1 = some out) : ACall Try.prog 107 [.sl 2 (List.map a_Term p0), .cp [.int .i64 p1.Const, .sl 1 (List.map a_i64 p1.Coeffs)]] [] (.tup [.agg [.int .i64 out.1.Const, .ow 1000], .bool out.2]) [(1000, .arr ⟨false, true⟩ 1 2 (List.map a_i64 out.1.Coeffs))] := by
  refine ACall.intro Try.func107 rfl Try.ntmps107 rfl (fun F hF => ?_)
  unfold m_spec_l06Sharper at hm
  refine T_seq ?_
  refine T_region ?_
  refine TL_alloc 11 z41 rfl rfl rfl rfl rfl rfl rfl ?_
  refine TL_pure rfl rfl rfl rfl (op_assign rfl) ?_
  refine TL_nil ?_
  refine T_seq ?_
  refine T_region ?_
  refine TL_pure rfl rfl rfl rfl (op_move rfl) ?_
  obtain ⟨r10, hr10, hm⟩ := bindS hm
  refine TL_callF (c_spec_l02Divisor p1 r10 hr10) Try.call108 rfl rfl rfl rfl rfl ?_
  refine TL_pure rfl rfl rfl rfl (op_assign rfl) ?_
  refine TL_nil ?_
  refine T_seq ?_
  refine T_seq ?_
  refine T_region ?_
  refine TL_pure rfl rfl rfl rfl (op_move rfl) ?_
  refine TL_pure rfl rfl rfl rfl (op_lss rfl rfl) ?_
  refine TL_pure rfl rfl rfl rfl (op_move rfl) ?_
  refine TL_split 13 rfl rfl rfl (fun hq => ?_) (fun hq => ?_)
  · replace hm := condT hq hm
    refine TL_pass rfl rfl rfl rfl rfl rfl rfl ?_
    refine TL_pass rfl rfl rfl rfl rfl rfl rfl ?_
    refine TL_pass rfl rfl rfl rfl rfl rfl rfl ?_
    refine TL_pass rfl rfl rfl rfl rfl rfl rfl ?_
    refine TL_pass rfl rfl rfl rfl rfl rfl rfl ?_
    refine TL_pass rfl rfl rfl rfl rfl rfl rfl ?_
    refine TL_pass rfl rfl rfl rfl rfl rfl rfl ?_
    refine TL_pure rfl rfl rfl rfl (op_pick_true rfl rfl) ?_
    refine TL_nil ?_
    refine T_cond_true rfl ?_
    refine T_seq ?_
    refine T_region ?_
    refine TL_pure rfl rfl rfl rfl (op_buildP pl41 z41 rfl rfl rfl rfl rfl) ?_
    refine TL_store_box sz41 rfl rfl rfl rfl rfl rfl rfl rfl rfl ?_
    refine TL_pure rfl rfl rfl rfl (op_assign rfl) ?_
    refine TL_nil ?_
    refine T_ownNilBox 11 1 12 ⟨false, true⟩ 2 rfl rfl rfl (sz := 1) rfl rfl rfl rfl ?_
    refine T_keepH [4, 5] [11, 12] rfl rfl rfl rfl (by rw [hF]; rfl) ?_
    refine T_ren [(11, 11), (12, 1000)] rfl rfl rfl (by rw [hF]; rfl) ?_
    refine T_ret ?_
    obtain rfl := someI hm
    refine ⟨[_, _], [1000], ⟨⟨_, _, rfl, rfl, .inr ⟨ag41, _, _, sz41, rfl, rfl⟩⟩, rfl, trivial⟩, ?_, rfl, rfl, rfl, rfl⟩
    rfl
  · replace hm := condF hq hm
    refine TL_want rfl rfl ?_
    refine TL_pure rfl rfl rfl rfl (op_move rfl) ?_
    refine TL_want rfl rfl ?_
    refine TL_pure rfl rfl rfl rfl (op_nilCheck rfl rfl) ?_
    refine TL_want rfl rfl ?_
    refine TL_pure rfl rfl rfl rfl (op_fieldAddrC (n := 1) fa41_0 rfl rfl rfl) ?_
    refine TL_want rfl rfl ?_
    refine TL_pure rfl rfl rfl rfl (op_load_one ag2 rfl rfl) ?_
    refine TL_want rfl rfl ?_
    refine TL_pure rfl rfl rfl rfl (op_move rfl) ?_
    refine TL_want rfl rfl ?_
    obtain ⟨q19, hq19, hm⟩ := bindS hm
    refine TL_pure rfl rfl rfl rfl (op_remT rfl rfl hq19) ?_
    refine TL_want rfl rfl ?_
    refine TL_pure rfl rfl rfl rfl (op_eql rfl rfl) ?_
    refine TL_pure rfl rfl rfl rfl (op_pick_false rfl rfl) ?_
    refine TL_nil ?_
    refine T_cond rfl (fun hq => ?_) (fun hq => ?_)
    · replace hm := condT hq hm
      refine T_seq ?_
      refine T_region ?_
      refine TL_pure rfl rfl rfl rfl (op_buildP pl41 z41 rfl rfl rfl rfl rfl) ?_
      refine TL_store_box sz41 rfl rfl rfl rfl rfl rfl rfl rfl rfl ?_
      refine TL_pure rfl rfl rfl rfl (op_assign rfl) ?_
      refine TL_nil ?_
      refine T_ownNilBox 11 1 13 ⟨false, true⟩ 2 rfl rfl rfl (sz := 1) rfl rfl rfl rfl ?_
      refine T_keepH [4, 5] [11, 13] rfl rfl rfl rfl (by rw [hF]; rfl) ?_
      refine T_ren [(11, 11), (13, 1000)] rfl rfl rfl (by rw [hF]; rfl) ?_
      refine T_ret ?_
      obtain rfl := someI hm
      refine ⟨[_, _], [1000], ⟨⟨_, _, rfl, rfl, .inr ⟨ag41, _, _, sz41, rfl, rfl⟩⟩, rfl, trivial⟩, ?_, rfl, rfl, rfl, rfl⟩
      rfl
    · replace hm := condF hq hm
      refine T_skip ?_
      refine T_seq ?_
      refine T_region ?_
      refine TL_pure rfl rfl rfl rfl (op_move rfl) ?_
      obtain ⟨r25, hr25, hm⟩ := bindS hm
      refine TL_callO [(1000, 14)] (c_spec_l02Tight p1 r25 hr25) Try.call80 rfl rfl rfl rfl rfl rfl rfl rfl rfl rfl rfl rfl rfl ?_
      refine TL_pure rfl rfl rfl rfl (op_move rfl) ?_
      refine TL_pure rfl rfl rfl rfl (op_extract rfl rfl) ?_
      refine TL_pure rfl rfl rfl rfl (op_extract rfl rfl) ?_
      refine TL_alloc 15 z41 rfl rfl rfl rfl rfl rfl rfl ?_
      refine TL_store_box sz41 rfl rfl rfl rfl rfl rfl rfl rfl rfl ?_
      refine TL_pure rfl rfl rfl rfl (op_assign rfl) ?_
      refine TL_nil ?_
      refine T_seq ?_
      refine T_drawZ [7] mix (by kernel_rfl) rfl ?_
      refine TZ_pure 0 (by kernel_rfl) rfl rfl rfl rfl rfl (op_load_agg ag41 sz41 rfl rfl rfl) ?_
      refine TZ_pure 1 (by kernel_rfl) rfl rfl rfl rfl rfl (op_move rfl) ?_
      refine TZ_pure 2 (by kernel_rfl) rfl rfl rfl rfl rfl (op_move rfl) ?_
      refine TZ_split 30 rfl rfl rfl (fun hq => ?_) (fun hq => ?_)
      · replace hm := condT hq hm
        obtain ⟨r32, hr32, hm⟩ := bindS hm
        refine TZ_pureW 3 (by kernel_rfl) rfl rfl rfl rfl rfl rfl rfl (op_move rfl) ?_
        refine TZ_one 4 (by kernel_rfl) rfl ?_
        refine TL_want rfl rfl ?_
        refine TL_callF (c_spec_l06Known p0 r25.1 r32 hr32) Try.call120 rfl rfl rfl rfl rfl ?_
        refine TL_nil ?_
        refine TZ_pureW 5 (by kernel_rfl) rfl rfl rfl rfl rfl rfl rfl (op_not rfl) ?_
        refine TZ_pure 6 (by kernel_rfl) rfl rfl rfl rfl rfl (op_pick_true rfl rfl) ?_
        refine TZ_one 7 (by kernel_rfl) rfl ?_
        refine TL_store_box sz41 rfl rfl rfl rfl rfl rfl rfl rfl rfl ?_
        refine TL_nil ?_
        refine TZ_pure 8 (by kernel_rfl) rfl rfl rfl rfl rfl (op_assign rfl) ?_
        refine TZ_done (by kernel_rfl) ?_
        refine T_keepH [4, 5] [11, 14] rfl rfl rfl rfl (by rw [hF]; rfl) ?_
        refine T_ren [(11, 11), (14, 1000)] rfl rfl rfl (by rw [hF]; rfl) ?_
        refine T_ret ?_
        obtain rfl := someI hm
        refine ⟨[_, _], [1000], ⟨⟨_, _, rfl, rfl, .inr ⟨ag41, _, _, sz41, rfl, rfl⟩⟩, rfl, trivial⟩, ?_, rfl, rfl, rfl, rfl⟩
        rfl
      · replace hm := condF hq hm
        refine TZ_pass 3 (by kernel_rfl) rfl rfl rfl rfl rfl rfl rfl rfl ?_
        refine TZ_one 4 (by kernel_rfl) rfl ?_
        refine TL_pass rfl rfl rfl rfl rfl rfl rfl ?_
        refine TL_nil ?_
        refine TZ_pass 5 (by kernel_rfl) rfl rfl rfl rfl rfl rfl rfl rfl ?_
        refine TZ_pure 6 (by kernel_rfl) rfl rfl rfl rfl rfl (op_pick_false rfl rfl) ?_
        refine TZ_one 7 (by kernel_rfl) rfl ?_
        refine TL_store_box sz41 rfl rfl rfl rfl rfl rfl rfl rfl rfl ?_
        refine TL_nil ?_
        refine TZ_pure 8 (by kernel_rfl) rfl rfl rfl rfl rfl (op_assign rfl) ?_
        refine TZ_done (by kernel_rfl) ?_
        refine T_keepH [4, 5] [11, 14] rfl rfl rfl rfl (by rw [hF]; rfl) ?_
        refine T_ren [(11, 11), (14, 1000)] rfl rfl rfl (by rw [hF]; rfl) ?_
        refine T_ret ?_
        obtain rfl := someI hm
        refine ⟨[_, _], [1000], ⟨⟨_, _, rfl, rfl, .inr ⟨ag41, _, _, sz41, rfl, rfl⟩⟩, rfl, trivial⟩, ?_, rfl, rfl, rfl, rfl⟩
        rfl
theorem c_spec_l06Cut (p0 : List Term) (out : Term × (List Int) × Int × Bool) (hm : m_spec_l06Cut p0 = some out) : ACall Try.prog 65 [.sl 2 (List.map a_Term p0)] [] (.tup [.agg [.int .i64 out.1.Const, .sl 1 (List.map a_i64 out.1.Coeffs)], .sl 1 (List.map a_i64 out.2.1), .int .i64 out.2.2.1, .bool out.2.2.2]) [] := by
  refine ACall.intro Try.func65 rfl Try.ntmps65 rfl (fun F hF => ?_)
  unfold m_spec_l06Cut at hm
  refine T_seq ?_
  refine T_region ?_
  refine TL_alloc 11 z41 rfl rfl rfl rfl rfl rfl rfl ?_
  refine TL_pure rfl rfl rfl rfl (op_assign rfl) ?_
  refine TL_pure rfl rfl rfl rfl (op_assign rfl) ?_
  refine TL_pure rfl rfl rfl rfl (op_assign rfl) ?_
  refine TL_nil ?_
  refine T_seq ?_
  refine T_region ?_
  refine TL_pure rfl rfl rfl rfl (op_move rfl) ?_
  obtain ⟨r15, hr15, hm⟩ := bindS hm
  refine TL_callT (c_spec_l06Every p0 r15 hr15) Try.call97 rfl rfl rfl rfl rfl ?_
  refine TL_pure rfl rfl rfl rfl (op_move rfl) ?_
  refine TL_pure rfl rfl rfl rfl (op_extract rfl rfl) ?_
  refine TL_pure rfl rfl rfl rfl (op_extract rfl rfl) ?_
  refine TL_pure rfl rfl rfl rfl (op_extract rfl rfl) ?_
  refine TL_pure rfl rfl rfl rfl (op_assign rfl) ?_
  refine TL_pure rfl rfl rfl rfl (op_assign rfl) ?_
  refine TL_pure rfl rfl rfl rfl (op_assign rfl) ?_
  refine TL_nil ?_
  refine T_seq ?_
  refine T_seq ?_
  refine T_region ?_
  refine TL_pure rfl rfl rfl rfl (op_move rfl) ?_
  refine TL_pure rfl rfl rfl rfl (op_not rfl) ?_
  refine TL_nil ?_
  refine T_cond rfl (fun hq => ?_) (fun hq => ?_)
  · replace hm := condT hq hm
    refine T_seq ?_
    refine T_region ?_
    refine TL_pure rfl rfl rfl rfl (op_buildP pl41 z41 rfl rfl rfl rfl rfl) ?_
    refine TL_store_box sz41 rfl rfl rfl rfl rfl rfl rfl rfl rfl ?_
    refine TL_pure rfl rfl rfl rfl (op_assign rfl) ?_
    refine TL_pure rfl rfl rfl rfl (op_assign rfl) ?_
    refine TL_pure rfl rfl rfl rfl (op_assign rfl) ?_
    refine TL_nil ?_
    refine T_keepH [2, 3, 4, 5] [11] rfl rfl rfl rfl (by rw [hF]; rfl) ?_
    refine T_nilAt 3 (x' := .sl 1 (List.map a_i64 ([] : List Int))) rfl (.inr ⟨_, rfl⟩) rfl ?_
    refine T_nilBox 11 (cs' := [.int .i64 (0 : Int), .sl 1 (List.map a_i64 ([] : List Int))]) rfl (⟨_, _, rfl, rfl, ⟨_, _, rfl, .inr ⟨_, rfl⟩, rfl⟩⟩) rfl ?_
    refine T_ret ?_
    obtain rfl := someI hm
    refine ⟨[_, _, _, _], [], ⟨⟨_, _, rfl, rfl, .inr ⟨ag41, _, _, sz41, rfl, rfl⟩⟩, rfl, rfl, rfl, trivial⟩, ?_, rfl, rfl, rfl, rfl⟩
    rfl
  · replace hm := condF hq hm
    refine T_skip ?_
    refine T_seq ?_
    refine T_seq ?_
    refine T_region ?_
    refine TL_pure rfl rfl rfl rfl (op_assign rfl) ?_
    refine TL_nil ?_
    refine T_block ?_
    refine T_keepH [0, 2, 7, 9] [11] rfl rfl rfl rfl (by rw [hF]; rfl) ?_
    refine T_loop ?_
    obtain ⟨u0, hl0, hm⟩ := bindS hm
    refine TR_iter2 (m_spec_l06Cut_L0 p0 r15) (fun (s0 : Int) => ⟨[(0, .sl 2 (List.map a_Term p0)), (2, .ptr 11 0 0), (7, .sl 3 (List.map a_l06Row r15.2.1)), (9, .int .i64 s0)], [(11, .box [.int .i64 (0 : Int), .snil])]⟩) (fun u0 => match u0 with | .inl u0 => .exit 0 | .inr u0 => .ret) (fun u0 => match u0 with | .inl u0 => ⟨[(2, .ptr 11 0 0)], [(11, .box [.int .i64 (0 : Int), .snil])]⟩ | .inr u0 => ⟨[(2, .ptr 11 0 0), (3, .sl 1 (List.map a_i64 u0.2.2.1)), (4, .int .i64 u0.2.2.2.1), (5, .bool u0.2.2.2.2)], [(11, .box [.int .i64 u0.1, .sl 1 (List.map a_i64 u0.2.1)])]⟩) (fun u0 => m_spec_l06Cut_A0 u0 = some out) hl0 hm (fun u0 hm => ?_) (fun hx0 s0 c0 hm hc0 => ?_)
    · rcases u0 with u0 | u0
      · unfold m_spec_l06Cut_A0 at hm
        refine T_seq ?_
        refine T_region ?_
        refine TL_pure rfl rfl rfl rfl (op_buildP pl41 z41 rfl rfl rfl rfl rfl) ?_
        refine TL_store_box sz41 rfl rfl rfl rfl rfl rfl rfl rfl rfl ?_
        refine TL_pure rfl rfl rfl rfl (op_assign rfl) ?_
        refine TL_pure rfl rfl rfl rfl (op_assign rfl) ?_
        refine TL_pure rfl rfl rfl rfl (op_assign rfl) ?_
        refine TL_nil ?_
        refine T_keepH [2, 3, 4, 5] [11] rfl rfl rfl rfl (by rw [hF]; rfl) ?_
        refine T_nilAt 3 (x' := .sl 1 (List.map a_i64 ([] : List Int))) rfl (.inr ⟨_, rfl⟩) rfl ?_
        refine T_nilBox 11 (cs' := [.int .i64 (0 : Int), .sl 1 (List.map a_i64 ([] : List Int))]) rfl (⟨_, _, rfl, rfl, ⟨_, _, rfl, .inr ⟨_, rfl⟩, rfl⟩⟩) rfl ?_
        refine T_ret ?_
        obtain rfl := someI hm
        refine ⟨[_, _, _, _], [], ⟨⟨_, _, rfl, rfl, .inr ⟨ag41, _, _, sz41, rfl, rfl⟩⟩, rfl, rfl, rfl, trivial⟩, ?_, rfl, rfl, rfl, rfl⟩
        rfl
      · unfold m_spec_l06Cut_A0 at hm
        obtain rfl := someI hm
        refine ⟨[_, _, _, _], [], ⟨⟨_, _, rfl, rfl, .inr ⟨ag41, _, _, sz41, rfl, rfl⟩⟩, rfl, rfl, rfl, trivial⟩, ?_, rfl, rfl, rfl, rfl⟩
        rfl
    · unfold m_spec_l06Cut_L0 at hm
      refine T_seq ?_
      refine T_seq ?_
      refine T_region ?_
      refine TL_pure rfl rfl rfl rfl (op_move rfl) ?_
      refine TL_pure rfl rfl rfl rfl (op_move rfl) ?_
      refine TL_pure rfl rfl rfl rfl (op_lenT Try.underlying84 rfl (List.length_map _)) ?_
      refine TL_fact (fun _ _ _ hr => RelP.slLen (i := 23) rfl hr) (fun hlen24 => ?_)
      rw [List.length_map] at hlen24
      refine TL_pure rfl rfl rfl rfl (op_lss rfl rfl) ?_
      refine TL_nil ?_
      refine T_cond rfl (fun hq => ?_) (fun hq => ?_)
      · replace hm := condT hq hm
        refine T_skip ?_
        refine T_seq ?_
        refine T_block ?_
        refine T_seq ?_
        refine T_region ?_
        refine TL_pure rfl rfl rfl rfl (op_move rfl) ?_
        refine TL_pure rfl rfl rfl rfl (op_move rfl) ?_
        obtain ⟨x30, hx30, hm⟩ := bindS hm
        refine TL_pure rfl rfl rfl rfl (op_indexT el84 rfl rfl hx30 rfl) ?_
        obtain ⟨r31, hr31, hm⟩ := bindS hm
        refine TL_callO [(1000, 20)] (c_spec_l06Term x30 r31 hr31) Try.call60 rfl rfl rfl rfl rfl rfl rfl rfl rfl rfl rfl rfl rfl ?_
        refine TL_alloc 21 z41 rfl rfl rfl rfl rfl rfl rfl ?_
        refine TL_store_box sz41 rfl rfl rfl rfl rfl rfl rfl rfl rfl ?_
        refine TL_nil ?_
        refine T_seq ?_
        refine T_region ?_
        refine TL_pure rfl rfl rfl rfl (op_move rfl) ?_
        obtain ⟨r34, hr34, hm⟩ := bindS hm
        refine TL_callO [(1000, 22)] (c_spec_l06Sharper p0 r31 r34 hr34) Try.call107 rfl rfl rfl rfl rfl rfl rfl rfl rfl rfl rfl rfl rfl ?_
        refine TL_pure rfl rfl rfl rfl (op_move rfl) ?_
        refine TL_pure rfl rfl rfl rfl (op_extract rfl rfl) ?_
        refine TL_pure rfl rfl rfl rfl (op_extract rfl rfl) ?_
        refine TL_alloc 23 z41 rfl rfl rfl rfl rfl rfl rfl ?_
        refine TL_store_box sz41 rfl rfl rfl rfl rfl rfl rfl rfl rfl ?_
        refine TL_pure rfl rfl rfl rfl (op_assign rfl) ?_
        refine TL_nil ?_
        refine T_seq ?_
        refine T_region ?_
        refine TL_pure rfl rfl rfl rfl (op_move rfl) ?_
        refine TL_nil ?_
        refine T_cond rfl (fun hq => ?_) (fun hq => ?_)
        · replace hm := condT hq hm
          refine T_seq ?_
          refine T_drawZ [7] mix (by kernel_rfl) rfl ?_
          obtain ⟨r44, hr44, hm⟩ := bindS hm
          refine TZ_pure 0 (by kernel_rfl) rfl rfl rfl rfl rfl (op_load_agg ag41 sz41 rfl rfl rfl) ?_
          refine TZ_pure 1 (by kernel_rfl) rfl rfl rfl rfl rfl (op_move rfl) ?_
          refine TZ_pure 2 (by kernel_rfl) rfl rfl rfl rfl rfl (op_move rfl) ?_
          refine TZ_pure 3 (by kernel_rfl) rfl rfl rfl rfl rfl (op_indexT el84 rfl rfl hx30 rfl) ?_
          refine TZ_pure 4 (by kernel_rfl) rfl rfl rfl rfl rfl (op_fieldAddr fa91_2 rfl rfl) ?_
          refine TZ_each [5, 6] (by kernel_rfl) rfl ?_
          refine ⟨?_, ?_⟩
          · refine ⟨_, rfl, ?_⟩
            refine TL_pure rfl rfl rfl rfl (op_load_one ag26 rfl rfl) ?_
            refine TL_nil ?_
            refine TZ_one 6 (by kernel_rfl) rfl ?_
            refine TL_callF (c_spec_l02Divisor r31 r44 hr44) Try.call108 rfl rfl rfl rfl rfl ?_
            refine TL_nil ?_
            refine TZ_one 7 (by kernel_rfl) rfl ?_
            refine TL_store_box sz41 rfl rfl rfl rfl rfl rfl rfl rfl rfl ?_
            refine TL_nil ?_
            refine TZ_pure 8 (by kernel_rfl) rfl rfl rfl rfl rfl (op_assign rfl) ?_
            refine TZ_pure 9 (by kernel_rfl) rfl rfl rfl rfl rfl (op_assign rfl) ?_
            refine TZ_pure 10 (by kernel_rfl) rfl rfl rfl rfl rfl (op_assign rfl) ?_
            refine TZ_done (by kernel_rfl) ?_
            refine T_keepH [2, 3, 4, 5] [11, 22] rfl rfl rfl rfl (by rw [hF]; rfl) ?_
            refine T_freeze 22 (by rw [hF]; rfl) rfl rfl rfl ?_
            refine T_ret ?_
            obtain rfl := someI hm
            have hn := CtlOK_out hc0
            exact hx0 (.inr (r34.1.Const, r34.1.Coeffs, x30.times, r44, true)) hn
          · refine ⟨_, rfl, ?_⟩
            refine TL_callF (c_spec_l02Divisor r31 r44 hr44) Try.call108 rfl rfl rfl rfl rfl ?_
            refine TL_nil ?_
            refine TZ_each [5, 7] (by kernel_rfl) rfl ?_
            refine ⟨?_, ?_⟩
            · refine ⟨_, rfl, ?_⟩
              refine TL_pure rfl rfl rfl rfl (op_load_one ag26 rfl rfl) ?_
              refine TL_nil ?_
              refine TZ_one 7 (by kernel_rfl) rfl ?_
              refine TL_store_box sz41 rfl rfl rfl rfl rfl rfl rfl rfl rfl ?_
              refine TL_nil ?_
              refine TZ_pure 8 (by kernel_rfl) rfl rfl rfl rfl rfl (op_assign rfl) ?_
              refine TZ_pure 9 (by kernel_rfl) rfl rfl rfl rfl rfl (op_assign rfl) ?_
              refine TZ_pure 10 (by kernel_rfl) rfl rfl rfl rfl rfl (op_assign rfl) ?_
              refine TZ_done (by kernel_rfl) ?_
              refine T_keepH [2, 3, 4, 5] [11, 22] rfl rfl rfl rfl (by rw [hF]; rfl) ?_
              refine T_freeze 22 (by rw [hF]; rfl) rfl rfl rfl ?_
              refine T_ret ?_
              obtain rfl := someI hm
              have hn := CtlOK_out hc0
              exact hx0 (.inr (r34.1.Const, r34.1.Coeffs, x30.times, r44, true)) hn
            · refine ⟨_, rfl, ?_⟩
              refine TL_store_box sz41 rfl rfl rfl rfl rfl rfl rfl rfl rfl ?_
              refine TL_nil ?_
              refine TZ_pure 5 (by kernel_rfl) rfl rfl rfl rfl rfl (op_load_one ag26 rfl rfl) ?_
              refine TZ_pure 8 (by kernel_rfl) rfl rfl rfl rfl rfl (op_assign rfl) ?_
              refine TZ_pure 9 (by kernel_rfl) rfl rfl rfl rfl rfl (op_assign rfl) ?_
              refine TZ_pure 10 (by kernel_rfl) rfl rfl rfl rfl rfl (op_assign rfl) ?_
              refine TZ_done (by kernel_rfl) ?_
              refine T_keepH [2, 3, 4, 5] [11, 22] rfl rfl rfl rfl (by rw [hF]; rfl) ?_
              refine T_freeze 22 (by rw [hF]; rfl) rfl rfl rfl ?_
              refine T_ret ?_
              obtain rfl := someI hm
              have hn := CtlOK_out hc0
              exact hx0 (.inr (r34.1.Const, r34.1.Coeffs, x30.times, r44, true)) hn
        · replace hm := condF hq hm
          refine T_skip ?_
          refine T_region ?_
          refine TL_pure rfl rfl rfl rfl (op_move rfl) ?_
          refine TL_pure rfl rfl rfl rfl (op_addW rfl rfl) ?_
          refine TL_pure rfl rfl rfl rfl (op_assign rfl) ?_
          refine TL_nil ?_
          refine TR_keepH [0, 2, 7, 9] [11] rfl rfl rfl rfl (by rw [hF]; rfl) ?_
          obtain rfl := someI hm
          have hn := CtlOK_next hc0
          exact hn _ rfl
      · replace hm := condF hq hm
        refine T_keepH [2] [11] rfl rfl rfl rfl (by rw [hF]; rfl) ?_
        refine T_exit ?_
        obtain rfl := someI hm
        have hn := CtlOK_out hc0
        exact hx0 (.inl ()) hn
theorem c_spec_FirstCut (p0 : List Term) (out : Term × (List Int) × Bool) (hm : m_spec_FirstCut p0 = some out) : ACall Try.prog 26 [.sl 2 (List.map a_Term p0)] [] (.tup [.agg [.int .i64 out.1.Const, .sl 1 (List.map a_i64 out.1.Coeffs)], .sl 1 (List.map a_i64 out.2.1), .bool out.2.2]) [] := by
  refine ACall.intro Try.func26 rfl Try.ntmps26 rfl (fun F hF => ?_)
  unfold m_spec_FirstCut at hm
  refine T_seq ?_
  refine T_region ?_
  refine TL_alloc 11 z41 rfl rfl rfl rfl rfl rfl rfl ?_
  refine TL_pure rfl rfl rfl rfl (op_assign rfl) ?_
  refine TL_pure rfl rfl rfl rfl (op_assign rfl) ?_
  refine TL_nil ?_
  refine T_seq ?_
  refine T_seq ?_
  refine T_region ?_
  refine TL_pure rfl rfl rfl rfl (op_move rfl) ?_
  obtain ⟨r10, hr10, hm⟩ := bindS hm
  refine TL_callF (c_spec_l02All p0 (14 : Int) r10 hr10) Try.call52 rfl rfl rfl rfl rfl ?_
  refine TL_pure rfl rfl rfl rfl (op_not rfl) ?_
  refine TL_nil ?_
  refine T_cond rfl (fun hq => ?_) (fun hq => ?_)
  · replace hm := condT hq hm
    refine T_seq ?_
    refine T_region ?_
    refine TL_pure rfl rfl rfl rfl (op_buildP pl41 z41 rfl rfl rfl rfl rfl) ?_
    refine TL_store_box sz41 rfl rfl rfl rfl rfl rfl rfl rfl rfl ?_
    refine TL_pure rfl rfl rfl rfl (op_assign rfl) ?_
    refine TL_pure rfl rfl rfl rfl (op_assign rfl) ?_
    refine TL_nil ?_
    refine T_keepH [2, 3, 4] [11] rfl rfl rfl rfl (by rw [hF]; rfl) ?_
    refine T_nilAt 3 (x' := .sl 1 (List.map a_i64 ([] : List Int))) rfl (.inr ⟨_, rfl⟩) rfl ?_
    refine T_nilBox 11 (cs' := [.int .i64 (0 : Int), .sl 1 (List.map a_i64 ([] : List Int))]) rfl (⟨_, _, rfl, rfl, ⟨_, _, rfl, .inr ⟨_, rfl⟩, rfl⟩⟩) rfl ?_
    refine T_ret ?_
    obtain rfl := someI hm
    refine ⟨[_, _, _], [], ⟨⟨_, _, rfl, rfl, .inr ⟨ag41, _, _, sz41, rfl, rfl⟩⟩, rfl, rfl, trivial⟩, ?_, rfl, rfl, rfl, rfl⟩
    rfl
  · replace hm := condF hq hm
    refine T_skip ?_
    refine T_seq ?_
    refine T_region ?_
    refine TL_pure rfl rfl rfl rfl (op_move rfl) ?_
    obtain ⟨r15, hr15, hm⟩ := bindS hm
    refine TL_callT (c_spec_l06Cut p0 r15 hr15) Try.call65 rfl rfl rfl rfl rfl ?_
    refine TL_pure rfl rfl rfl rfl (op_move rfl) ?_
    refine TL_pure rfl rfl rfl rfl (op_extract rfl rfl) ?_
    refine TL_pure rfl rfl rfl rfl (op_extract rfl rfl) ?_
    refine TL_pure rfl rfl rfl rfl (op_extract rfl rfl) ?_
    refine TL_pure rfl rfl rfl rfl (op_extract rfl rfl) ?_
    refine TL_alloc 12 z41 rfl rfl rfl rfl rfl rfl rfl ?_
    refine TL_store_box sz41 rfl rfl rfl rfl rfl rfl rfl rfl rfl ?_
    refine TL_pure rfl rfl rfl rfl (op_assign rfl) ?_
    refine TL_pure rfl rfl rfl rfl (op_assign rfl) ?_
    refine TL_pure rfl rfl rfl rfl (op_assign rfl) ?_
    refine TL_nil ?_
    refine T_seq ?_
    refine T_seq ?_
    refine T_region ?_
    refine TL_pure rfl rfl rfl rfl (op_move rfl) ?_
    refine TL_pure rfl rfl rfl rfl (op_not rfl) ?_
    refine TL_nil ?_
    refine T_cond rfl (fun hq => ?_) (fun hq => ?_)
    · replace hm := condT hq hm
      refine T_seq ?_
      refine T_region ?_
      refine TL_pure rfl rfl rfl rfl (op_buildP pl41 z41 rfl rfl rfl rfl rfl) ?_
      refine TL_store_box sz41 rfl rfl rfl rfl rfl rfl rfl rfl rfl ?_
      refine TL_pure rfl rfl rfl rfl (op_assign rfl) ?_
      refine TL_pure rfl rfl rfl rfl (op_assign rfl) ?_
      refine TL_nil ?_
      refine T_keepH [2, 3, 4] [11] rfl rfl rfl rfl (by rw [hF]; rfl) ?_
      refine T_nilAt 3 (x' := .sl 1 (List.map a_i64 ([] : List Int))) rfl (.inr ⟨_, rfl⟩) rfl ?_
      refine T_nilBox 11 (cs' := [.int .i64 (0 : Int), .sl 1 (List.map a_i64 ([] : List Int))]) rfl (⟨_, _, rfl, rfl, ⟨_, _, rfl, .inr ⟨_, rfl⟩, rfl⟩⟩) rfl ?_
      refine T_ret ?_
      obtain rfl := someI hm
      refine ⟨[_, _, _], [], ⟨⟨_, _, rfl, rfl, .inr ⟨ag41, _, _, sz41, rfl, rfl⟩⟩, rfl, rfl, trivial⟩, ?_, rfl, rfl, rfl, rfl⟩
      rfl
    · replace hm := condF hq hm
      refine T_skip ?_
      refine T_seq ?_
      refine T_drawZ [3] mix (by kernel_rfl) rfl ?_
      obtain ⟨r25, hr25, hm⟩ := bindS hm
      refine TZ_pure 0 (by kernel_rfl) rfl rfl rfl rfl rfl (op_load_agg ag41 sz41 rfl rfl rfl) ?_
      refine TZ_pure 1 (by kernel_rfl) rfl rfl rfl rfl rfl (op_move rfl) ?_
      refine TZ_one 2 (by kernel_rfl) rfl ?_
      refine TL_callO [(1000, 14)] (c_spec_l00Own r15.2.1 r25 hr25) Try.call54 rfl rfl rfl rfl rfl rfl rfl rfl rfl rfl rfl rfl rfl ?_
      refine TL_nil ?_
      refine TZ_one 3 (by kernel_rfl) rfl ?_
      refine TL_store_box sz41 rfl rfl rfl rfl rfl rfl rfl rfl rfl ?_
      refine TL_nil ?_
      refine TZ_pure 4 (by kernel_rfl) rfl rfl rfl rfl rfl (op_assign rfl) ?_
      refine TZ_pure 5 (by kernel_rfl) rfl rfl rfl rfl rfl (op_assign rfl) ?_
      refine TZ_done (by kernel_rfl) ?_
      refine T_keepH [2, 3, 4] [11, 14] rfl rfl rfl rfl (by rw [hF]; rfl) ?_
      refine T_freeze 14 (by rw [hF]; rfl) rfl rfl rfl ?_
      refine T_ret ?_
      obtain rfl := someI hm
      refine ⟨[_, _, _], [], ⟨⟨_, _, rfl, rfl, .inr ⟨ag41, _, _, sz41, rfl, rfl⟩⟩, rfl, rfl, trivial⟩, ?_, rfl, rfl, rfl, rfl⟩
      rfl
theorem c_laws_b10Value (p0 : Term) (p1 : List Int) (out : Int) (hm : m_laws_b10Value p0 p1 = some out) : ACall Try.prog 34 [.agg [.int .i64 p0.Const, .sl 1 (List.map a_i64 p0.Coeffs)], .sl 1 (List.map a_i64 p1)] [] (.int .i64 out) [] := by
  refine ACall.intro Try.func34 rfl Try.ntmps34 rfl (fun F hF => ?_)
  unfold m_laws_b10Value at hm
  refine T_seq ?_
  refine T_region ?_
  refine TL_box 11 rfl rfl rfl rfl rfl rfl rfl ?_
  refine TL_pure rfl rfl rfl rfl (op_assign rfl) ?_
  refine TL_nil ?_
  refine T_seq ?_
  refine T_region ?_
  refine TL_pure rfl rfl rfl rfl (op_fieldAddr fa41_0 rfl rfl) ?_
  refine TL_pure rfl rfl rfl rfl (op_load_one ag2 rfl rfl) ?_
  refine TL_pure rfl rfl rfl rfl (op_assign rfl) ?_
  refine TL_nil ?_
  refine T_seq ?_
  refine T_seq ?_
  refine T_region ?_
  refine TL_pure rfl rfl rfl rfl (op_assign rfl) ?_
  refine TL_nil ?_
  refine T_block ?_
  refine T_keepH [1, 2, 5, 6] [11] rfl rfl rfl rfl (by rw [hF]; rfl) ?_
  refine T_loop ?_
  obtain ⟨u0, hl0, hm⟩ := bindS hm
  refine TR_iter2 (m_laws_b10Value_L0 p0 p1) (fun (s0 : Int × Int) => ⟨[(1, .sl 1 (List.map a_i64 p1)), (2, .ptr 11 0 0), (5, .int .i64 s0.1), (6, .int .i64 s0.2)], [(11, .box [.int .i64 p0.Const, .sl 1 (List.map a_i64 p0.Coeffs)])]⟩) (fun u0 => .exit 0) (fun u0 => ⟨[(5, .int .i64 u0)], []⟩) (fun u0 => m_laws_b10Value_A0 u0 = some out) hl0 hm (fun u0 hm => ?_) (fun hx0 s0 c0 hm hc0 => ?_)
  · unfold m_laws_b10Value_A0 at hm
    refine T_seq ?_
    refine T_region ?_
    refine TL_pure rfl rfl rfl rfl (op_move rfl) ?_
    refine TL_pure rfl rfl rfl rfl (op_assign rfl) ?_
    refine TL_nil ?_
    refine T_keepH [4] [] rfl rfl rfl rfl (by rw [hF]; rfl) ?_
    refine T_ret ?_
    obtain rfl := someI hm
    refine ⟨[_], [], ⟨rfl, trivial⟩, ?_, rfl, rfl, rfl, rfl⟩
    rfl
  · unfold m_laws_b10Value_L0 at hm
    refine T_seq ?_
    refine T_seq ?_
    refine T_region ?_
    refine TL_pure rfl rfl rfl rfl (op_move rfl) ?_
    refine TL_pure rfl rfl rfl rfl (op_fieldAddr fa41_1 rfl rfl) ?_
    refine TL_pure rfl rfl rfl rfl (op_load_one ag26 rfl rfl) ?_
    refine TL_pure rfl rfl rfl rfl (op_lenT Try.underlying26 rfl (List.length_map _)) ?_
    refine TL_fact (fun _ _ _ hr => RelP.slLen (i := 11) rfl hr) (fun hlen12 => ?_)
    rw [List.length_map] at hlen12
    refine TL_pure rfl rfl rfl rfl (op_lss rfl rfl) ?_
    refine TL_pure rfl rfl rfl rfl (op_move rfl) ?_
    refine TL_join 5 (fun _ : Unit => ⟨[(1, .sl 1 (List.map a_i64 p1)), (2, .ptr 11 0 0), (5, .int .i64 s0.1), (6, .int .i64 s0.2), (19, .bool ((decide (s0.2 < (p0.Coeffs.length : Int))) && (decide (s0.2 < (p1.length : Int)))))], [(11, .box [.int .i64 p0.Const, .sl 1 (List.map a_i64 p0.Coeffs)])]⟩) (fun _ => True) (fun _ _ => ?_) (fun hjj => ?_)
    · refine TL_nil ?_
      refine T_cond rfl (fun hq => ?_) (fun hq => ?_)
      · replace hm := condT hq hm
        refine T_skip ?_
        refine T_seq ?_
        refine T_block ?_
        refine T_drawZ [] mix (by kernel_rfl) rfl ?_
        obtain ⟨x26, hx26, hm⟩ := bindS hm
        obtain ⟨x30, hx30, hm⟩ := bindS hm
        refine TZ_pure 0 (by kernel_rfl) rfl rfl rfl rfl rfl (op_move rfl) ?_
        refine TZ_pure 1 (by kernel_rfl) rfl rfl rfl rfl rfl (op_fieldAddr fa41_1 rfl rfl) ?_
        refine TZ_pure 2 (by kernel_rfl) rfl rfl rfl rfl rfl (op_load_one ag26 rfl rfl) ?_
        refine TZ_pure 3 (by kernel_rfl) rfl rfl rfl rfl rfl (op_move rfl) ?_
        refine TZ_pure 4 (by kernel_rfl) rfl rfl rfl rfl rfl (op_indexT el26 rfl rfl hx26 rfl) ?_
        refine TZ_pure 5 (by kernel_rfl) rfl rfl rfl rfl rfl (op_load_one ag2 rfl rfl) ?_
        refine TZ_pure 6 (by kernel_rfl) rfl rfl rfl rfl rfl (op_move rfl) ?_
        refine TZ_pure 7 (by kernel_rfl) rfl rfl rfl rfl rfl (op_move rfl) ?_
        refine TZ_pure 8 (by kernel_rfl) rfl rfl rfl rfl rfl (op_indexT el26 rfl rfl hx30 rfl) ?_
        refine TZ_pure 9 (by kernel_rfl) rfl rfl rfl rfl rfl (op_load_one ag2 rfl rfl) ?_
        refine TZ_pure 10 (by kernel_rfl) rfl rfl rfl rfl rfl (op_mulW rfl rfl) ?_
        refine TZ_pure 11 (by kernel_rfl) rfl rfl rfl rfl rfl (op_addW rfl rfl) ?_
        refine TZ_pure 12 (by kernel_rfl) rfl rfl rfl rfl rfl (op_assign rfl) ?_
        refine TZ_done (by kernel_rfl) ?_
        refine T_region ?_
        refine TL_pure rfl rfl rfl rfl (op_move rfl) ?_
        refine TL_pure rfl rfl rfl rfl (op_addW rfl rfl) ?_
        refine TL_pure rfl rfl rfl rfl (op_assign rfl) ?_
        refine TL_nil ?_
        refine TR_keepH [1, 2, 5, 6] [11] rfl rfl rfl rfl (by rw [hF]; rfl) ?_
        obtain rfl := someI hm
        have hn := CtlOK_next hc0
        exact hn _ rfl
      · replace hm := condF hq hm
        refine T_keepH [5] [] rfl rfl rfl rfl (by rw [hF]; rfl) ?_
        refine T_exit ?_
        obtain rfl := someI hm
        have hn := CtlOK_out hc0
        exact hx0 s0.1 hn
    · refine TL_split 14 rfl rfl rfl (fun hq => ?_) (fun hq => ?_)
      · refine TL_want rfl rfl ?_
        refine TL_pure rfl rfl rfl rfl (op_move rfl) ?_
        refine TL_want rfl rfl ?_
        refine TL_pure rfl rfl rfl rfl (op_move rfl) ?_
        refine TL_want rfl rfl ?_
        refine TL_pure rfl rfl rfl rfl (op_lenT Try.underlying26 rfl (List.length_map _)) ?_
        refine TL_fact (fun _ _ _ hr => RelP.slLen (i := 16) rfl hr) (fun hlen17 => ?_)
        rw [List.length_map] at hlen17
        refine TL_want rfl rfl ?_
        refine TL_pure rfl rfl rfl rfl (op_lss rfl rfl) ?_
        refine TL_pure rfl rfl rfl rfl (op_pick_true rfl rfl) ?_
        refine TL_keepH [1, 2, 5, 6, 19] [11] rfl rfl rfl rfl (by rw [hF]; rfl) ?_
        exact TL_cast _ (by rw [hq]; rfl) (hjj () trivial)
      · refine TL_pass rfl rfl rfl rfl rfl rfl rfl ?_
        refine TL_pass rfl rfl rfl rfl rfl rfl rfl ?_
        refine TL_pass rfl rfl rfl rfl rfl rfl rfl ?_
        refine TL_pass rfl rfl rfl rfl rfl rfl rfl ?_
        refine TL_pure rfl rfl rfl rfl (op_pick_false rfl rfl) ?_
        refine TL_keepH [1, 2, 5, 6, 19] [11] rfl rfl rfl rfl (by rw [hF]; rfl) ?_
        exact TL_cast _ (by rw [hq]; rfl) (hjj () trivial)
theorem c_laws_b10Hold (p0 : List Term) (p1 : List Int) (out : Bool) (hm : m_laws_b10Hold p0 p1 = some out) : ACall Try.prog 15 [.sl 2 (List.map a_Term p0), .sl 1 (List.map a_i64 p1)] [] (.bool out) [] := by
  refine ACall.intro Try.func15 rfl Try.ntmps15 rfl (fun F hF => ?_)
  unfold m_laws_b10Hold at hm
  refine T_seq ?_
  refine T_region ?_
  refine TL_pure rfl rfl rfl rfl (op_assign rfl) ?_
  refine TL_nil ?_
  refine T_seq ?_
  refine T_seq ?_
  refine T_region ?_
  refine TL_pure rfl rfl rfl rfl (op_assign rfl) ?_
  refine TL_nil ?_
  refine T_block ?_
  refine T_keepH [0, 1, 5] [] rfl rfl rfl rfl (by rw [hF]; rfl) ?_
  refine T_loop ?_
  obtain ⟨u0, hl0, hm⟩ := bindS hm
  refine TR_iter2 (m_laws_b10Hold_L0 p0 p1) (fun (s0 : Int) => ⟨[(0, .sl 2 (List.map a_Term p0)), (1, .sl 1 (List.map a_i64 p1)), (5, .int .i64 s0)], []⟩) (fun u0 => match u0 with | .inl u0 => .exit 0 | .inr u0 => .ret) (fun u0 => match u0 with | .inl u0 => ⟨[], []⟩ | .inr u0 => ⟨[(4, .bool u0)], []⟩) (fun u0 => m_laws_b10Hold_A0 u0 = some out) hl0 hm (fun u0 hm => ?_) (fun hx0 s0 c0 hm hc0 => ?_)
  · rcases u0 with u0 | u0
    · unfold m_laws_b10Hold_A0 at hm
      refine T_seq ?_
      refine T_region ?_
      refine TL_pure rfl rfl rfl rfl (op_assign rfl) ?_
      refine TL_nil ?_
      refine T_keepH [4] [] rfl rfl rfl rfl (by rw [hF]; rfl) ?_
      refine T_ret ?_
      obtain rfl := someI hm
      refine ⟨[_], [], ⟨rfl, trivial⟩, ?_, rfl, rfl, rfl, rfl⟩
      rfl
    · unfold m_laws_b10Hold_A0 at hm
      obtain rfl := someI hm
      refine ⟨[_], [], ⟨rfl, trivial⟩, ?_, rfl, rfl, rfl, rfl⟩
      rfl
  · unfold m_laws_b10Hold_L0 at hm
    refine T_seq ?_
    refine T_seq ?_
    refine T_region ?_
    refine TL_pure rfl rfl rfl rfl (op_move rfl) ?_
    refine TL_pure rfl rfl rfl rfl (op_move rfl) ?_
    refine TL_pure rfl rfl rfl rfl (op_lenT Try.underlying24 rfl (List.length_map _)) ?_
    refine TL_fact (fun _ _ _ hr => RelP.slLen (i := 7) rfl hr) (fun hlen8 => ?_)
    rw [List.length_map] at hlen8
    refine TL_pure rfl rfl rfl rfl (op_lss rfl rfl) ?_
    refine TL_nil ?_
    refine T_cond rfl (fun hq => ?_) (fun hq => ?_)
    · replace hm := condT hq hm
      refine T_skip ?_
      refine T_seq ?_
      refine T_block ?_
      refine T_seq ?_
      refine T_region ?_
      refine TL_pure rfl rfl rfl rfl (op_move rfl) ?_
      refine TL_pure rfl rfl rfl rfl (op_move rfl) ?_
      obtain ⟨x14, hx14, hm⟩ := bindS hm
      refine TL_pure rfl rfl rfl rfl (op_indexT el24 rfl rfl hx14 rfl) ?_
      refine TL_pure rfl rfl rfl rfl (op_load_agg ag41 sz41 rfl rfl rfl) ?_
      refine TL_pure rfl rfl rfl rfl (op_move rfl) ?_
      obtain ⟨r17, hr17, hm⟩ := bindS hm
      refine TL_callF (c_laws_b10Value x14 p1 r17 hr17) Try.call34 rfl rfl rfl rfl rfl ?_
      refine TL_pure rfl rfl rfl rfl (op_lss rfl rfl) ?_
      refine TL_nil ?_
      refine T_cond rfl (fun hq => ?_) (fun hq => ?_)
      · replace hm := condT hq hm
        refine T_seq ?_
        refine T_region ?_
        refine TL_pure rfl rfl rfl rfl (op_assign rfl) ?_
        refine TL_nil ?_
        refine T_keepH [4] [] rfl rfl rfl rfl (by rw [hF]; rfl) ?_
        refine T_ret ?_
        obtain rfl := someI hm
        have hn := CtlOK_out hc0
        exact hx0 (.inr false) hn
      · replace hm := condF hq hm
        refine T_skip ?_
        refine T_region ?_
        refine TL_pure rfl rfl rfl rfl (op_move rfl) ?_
        refine TL_pure rfl rfl rfl rfl (op_addW rfl rfl) ?_
        refine TL_pure rfl rfl rfl rfl (op_assign rfl) ?_
        refine TL_nil ?_
        refine TR_keepH [0, 1, 5] [] rfl rfl rfl rfl (by rw [hF]; rfl) ?_
        obtain rfl := someI hm
        have hn := CtlOK_next hc0
        exact hn _ rfl
    · replace hm := condF hq hm
      refine T_keepH [] [] rfl rfl rfl rfl (by rw [hF]; rfl) ?_
      refine T_exit ?_
      obtain rfl := someI hm
      have hn := CtlOK_out hc0
      exact hx0 (.inl ()) hn
theorem c_laws_b10At (p0 : List Int) (p1 : Int) (p2 : Int) (out : Int) (hm : m_laws_b10At p0 p1 p2 = some out) : ACall Try.prog 23 [.sl 1 (List.map a_u8 p0), .int .i64 p1, .int .i64 p2] [] (.int .i64 out) [] := by
  refine ACall.intro Try.func23 rfl Try.ntmps23 rfl (fun F hF => ?_)
  unfold m_laws_b10At at hm
  refine T_seq ?_
  refine T_region ?_
  refine TL_pure rfl rfl rfl rfl (op_assign rfl) ?_
  refine TL_nil ?_
  refine T_seq ?_
  refine T_seq ?_
  refine T_region ?_
  refine TL_pure rfl rfl rfl rfl (op_move rfl) ?_
  refine TL_pure rfl rfl rfl rfl (op_leq rfl rfl) ?_
  refine TL_nil ?_
  refine T_cond rfl (fun hq => ?_) (fun hq => ?_)
  · replace hm := condT hq hm
    refine T_seq ?_
    refine T_region ?_
    refine TL_pure rfl rfl rfl rfl (op_assign rfl) ?_
    refine TL_nil ?_
    refine T_keepH [6] [] rfl rfl rfl rfl (by rw [hF]; rfl) ?_
    refine T_ret ?_
    obtain rfl := someI hm
    refine ⟨[_], [], ⟨rfl, trivial⟩, ?_, rfl, rfl, rfl, rfl⟩
    rfl
  · replace hm := condF hq hm
    refine T_skip ?_
    refine T_seq ?_
    refine T_seq ?_
    refine T_region ?_
    refine TL_pure rfl rfl rfl rfl (op_move rfl) ?_
    refine TL_pure rfl rfl rfl rfl (op_move rfl) ?_
    refine TL_pure rfl rfl rfl rfl (op_lenT Try.underlying22 rfl (List.length_map _)) ?_
    refine TL_fact (fun _ _ _ hr => RelP.slLen (i := 10) rfl hr) (fun hlen11 => ?_)
    rw [List.length_map] at hlen11
    refine TL_pure rfl rfl rfl rfl (op_lss rfl rfl) ?_
    refine TL_nil ?_
    refine T_cond rfl (fun hq => ?_) (fun hq => ?_)
    · replace hm := condT hq hm
      refine T_seq ?_
      refine T_region ?_
      refine TL_pure rfl rfl rfl rfl (op_move rfl) ?_
      refine TL_pure rfl rfl rfl rfl (op_move rfl) ?_
      obtain ⟨x15, hx15, hm⟩ := bindS hm
      refine TL_pure rfl rfl rfl rfl (op_indexT el22 rfl rfl hx15 rfl) ?_
      refine TL_pure rfl rfl rfl rfl (op_load_one ag5 rfl rfl) ?_
      refine TL_pure rfl rfl rfl rfl (op_convW ⟨_, Try.underlying5⟩ Try.underlying2 rfl) ?_
      refine TL_pure rfl rfl rfl rfl (op_move rfl) ?_
      obtain ⟨q19, hq19, hm⟩ := bindS hm
      refine TL_pure rfl rfl rfl rfl (op_remT rfl rfl hq19) ?_
      refine TL_pure rfl rfl rfl rfl (op_assign rfl) ?_
      refine TL_nil ?_
      refine T_keepH [6] [] rfl rfl rfl rfl (by rw [hF]; rfl) ?_
      refine T_ret ?_
      obtain rfl := someI hm
      refine ⟨[_], [], ⟨rfl, trivial⟩, ?_, rfl, rfl, rfl, rfl⟩
      rfl
    · replace hm := condF hq hm
      refine T_skip ?_
      refine T_seq ?_
      refine T_region ?_
      refine TL_pure rfl rfl rfl rfl (op_move rfl) ?_
      refine TL_pure rfl rfl rfl rfl (op_mulW rfl rfl) ?_
      refine TL_pure rfl rfl rfl rfl (op_addW rfl rfl) ?_
      refine TL_pure rfl rfl rfl rfl (op_move rfl) ?_
      obtain ⟨q24, hq24, hm⟩ := bindS hm
      refine TL_pure rfl rfl rfl rfl (op_remT rfl rfl hq24) ?_
      refine TL_pure rfl rfl rfl rfl (op_assign rfl) ?_
      refine TL_nil ?_
      refine T_keepH [6] [] rfl rfl rfl rfl (by rw [hF]; rfl) ?_
      refine T_ret ?_
      obtain rfl := someI hm
      refine ⟨[_], [], ⟨rfl, trivial⟩, ?_, rfl, rfl, rfl, rfl⟩
      rfl
theorem c_impl_symbolTerm (p0 : Int) (out : Term) (hm : m_impl_symbolTerm p0 = some out) : ACall Try.prog 71 [.int .i64 p0] [] (.agg [.int .i64 out.Const, .ow 1000]) [(1000, .arr ⟨false, true⟩ 1 2 (List.map a_i64 out.Coeffs))] := by
  refine ACall.intro Try.func71 rfl Try.ntmps71 rfl (fun F hF => ?_)
  unfold m_impl_symbolTerm at hm
  refine T_seq ?_
  refine T_region ?_
  refine TL_alloc 11 z41 rfl rfl rfl rfl rfl rfl rfl ?_
  refine TL_nil ?_
  refine T_seq ?_
  refine T_region ?_
  refine TL_pure rfl rfl rfl rfl (op_move rfl) ?_
  refine TL_pure rfl rfl rfl rfl (op_addW rfl rfl) ?_
  obtain ⟨k6, hk6, hm⟩ := bindS hm
  refine TL_make 12 (n := k6) el26 z2 rfl rfl rfl rfl rfl rfl (makeI_spec hk6).1 (makeI_spec hk6).1 (makeI_spec hk6).2 rfl rfl rfl rfl ?_
  refine TL_nils 12 (List.map a_i64 (List.replicate k6 (0 : Int))) (by rw [hF]; rfl) rfl (ElR.rep (z := .int .i64 (0 : Int)) (g := a_i64) (x := (0 : Int)) ⟨⟨rfl, rfl⟩, trivial⟩ k6) rfl ?_
  refine TL_pure rfl rfl rfl rfl (op_buildP pl41 z41 rfl rfl rfl rfl rfl) ?_
  refine TL_alloc 13 z41 rfl rfl rfl rfl rfl rfl rfl ?_
  refine TL_store_box sz41 rfl rfl rfl rfl rfl rfl rfl rfl rfl ?_
  refine TL_nil ?_
  refine T_seq ?_
  refine T_region ?_
  refine TL_pure rfl rfl rfl rfl (op_fieldAddr fa41_1 rfl rfl) ?_
  refine TL_pure rfl rfl rfl rfl (op_load_one ag26 rfl rfl) ?_
  refine TL_pure rfl rfl rfl rfl (op_move rfl) ?_
  obtain ⟨x11, hx11, hm⟩ := bindS hm
  refine TL_pure rfl rfl rfl rfl (op_indexO el26 rfl rfl rfl hx11) ?_
  refine TL_storeT sz2 rfl rfl ((getI_spec hx11).2) (v' := (1 : Int)) rfl rfl rfl rfl rfl rfl rfl rfl rfl rfl ?_
  refine TL_nil ?_
  refine T_seq ?_
  refine T_region ?_
  refine TL_pure rfl rfl rfl rfl (op_load_agg ag41 sz41 rfl rfl rfl) ?_
  refine TL_store_box sz41 rfl rfl rfl rfl rfl rfl rfl rfl rfl ?_
  refine TL_nil ?_
  refine T_keepH [2] [11, 12] rfl rfl rfl rfl (by rw [hF]; rfl) ?_
  refine T_deepen 12 (p' := false) (List.map a_i64 ((List.replicate k6 (0 : Int)).set ((p0).toNat) (1 : Int))) (by rw [hF]; rfl) rfl (ElR.map (f := a_i64) (g := a_i64) (fun _ => ⟨⟨rfl, rfl⟩, trivial⟩) ((List.replicate k6 (0 : Int)).set ((p0).toNat) (1 : Int))) rfl rfl rfl ?_
  refine T_ren [(11, 11), (12, 1000)] rfl rfl rfl (by rw [hF]; rfl) ?_
  refine T_ret ?_
  obtain rfl := someI hm
  refine ⟨[_], [1000], ⟨⟨_, _, rfl, rfl, .inr ⟨ag41, _, _, sz41, rfl, rfl⟩⟩, trivial⟩, ?_, rfl, rfl, rfl, rfl⟩
  rfl
theorem c_slices_Clone_impl_Term_impl_Term (p0 : List Term) (out : List Term) (hm : m_slices_Clone_impl_Term_impl_Term p0 = some out) : ACall Try.prog 88 [.sl 2 (List.map a_Term p0)] [] (.ow 1000) [(1000, .arr ⟨false, false⟩ 2 41 (List.map a_Term out))] := by
  refine ACall.intro Try.func88 rfl Try.ntmps88 rfl (fun F hF => ?_)
  unfold m_slices_Clone_impl_Term_impl_Term at hm
  refine T_seq ?_
  refine T_region ?_
  refine TL_pure rfl rfl rfl rfl (op_assign rfl) ?_
  refine TL_nil ?_
  refine T_seq ?_
  refine T_seq ?_
  refine T_region ?_
  refine TL_pure rfl rfl rfl rfl (op_move rfl) ?_
  refine TL_eqNil Try.underlying24 rfl rfl rfl rfl rfl (fun hE => ?_) ?_
  · have hE := List.map_eq_nil_iff.1 hE
    rw [hE] at hm
    replace hm : some ([] : List Term) = some out := hm
    refine TL_nil ?_
    refine T_cond_true rfl ?_
    refine T_seq ?_
    refine T_region ?_
    refine TL_pure rfl rfl rfl rfl (op_assign rfl) ?_
    refine TL_nil ?_
    refine T_ownNil 2 11 ⟨false, false⟩ 41 rfl rfl (sz := 2) rfl rfl rfl ?_
    refine T_keepH [2] [11] rfl rfl rfl rfl (by rw [hF]; rfl) ?_
    refine T_ren [(11, 1000)] rfl rfl rfl (by rw [hF]; rfl) ?_
    refine T_ret ?_
    obtain rfl := someI hm
    refine ⟨[_], [1000], ⟨rfl, trivial⟩, ?_, rfl, rfl, rfl, rfl⟩
    rfl
  · refine TL_nil ?_
    refine T_cond_false rfl ?_
    refine T_skip ?_
    refine T_seq ?_
    refine T_region ?_
    refine TL_buildSlice 12 (es := List.map a_Term ([] : List Term)) el24 z41 rfl rfl rfl rfl rfl rfl rfl rfl rfl ?_
    refine TL_pure rfl rfl rfl rfl (op_move rfl) ?_
    obtain ⟨q7, hq7, hm⟩ := bindS hm
    refine TL_appendT (f := a_Term) (a := ([] : List Term)) (b := p0) el24 z41 rfl rfl rfl rfl rfl rfl rfl (capI_spec hq7) rfl rfl rfl rfl rfl ?_
    refine TL_pure rfl rfl rfl rfl (op_assign rfl) ?_
    refine TL_nil ?_
    refine T_keepH [2] [12] rfl rfl rfl rfl (by rw [hF]; rfl) ?_
    refine T_ren [(12, 1000)] rfl rfl rfl (by rw [hF]; rfl) ?_
    refine T_ret ?_
    obtain rfl := someI hm
    refine ⟨[_], [1000], ⟨rfl, trivial⟩, ?_, rfl, rfl, rfl, rfl⟩
    rfl
theorem c_impl_with (p0 : List Term) (p1 : Term) (out : List Term) (hm : m_impl_with p0 p1 = some out) : ACall Try.prog 72 [.sl 2 (List.map a_Term p0), .agg [.int .i64 p1.Const, .sl 1 (List.map a_i64 p1.Coeffs)]] [] (.sl 2 (List.map a_Term out)) [] := by
  refine ACall.intro Try.func72 rfl Try.ntmps72 rfl (fun F hF => ?_)
  unfold m_impl_with at hm
  refine T_seq ?_
  refine T_region ?_
  refine TL_box 11 rfl rfl rfl rfl rfl rfl rfl ?_
  refine TL_pure rfl rfl rfl rfl (op_assign rfl) ?_
  refine TL_nil ?_
  refine T_seq ?_
  refine T_drawZ [3, 4] mix (by kernel_rfl) rfl ?_
  obtain ⟨r6, hr6, hm⟩ := bindS hm
  obtain ⟨q9, hq9, hm⟩ := bindS hm
  refine TZ_pure 0 (by kernel_rfl) rfl rfl rfl rfl rfl (op_move rfl) ?_
  refine TZ_each [1, 2] (by kernel_rfl) rfl ?_
  refine ⟨?_, ?_⟩
  · refine ⟨_, rfl, ?_⟩
    refine TLE_call [] [(1000, 14)] [] (c_slices_Clone_impl_Term_impl_Term p0 r6 hr6) (fun _ => rfl) Try.call88 rfl rfl rfl rfl rfl trivial rfl rfl rfl rfl rfl rfl rfl rfl rfl rfl rfl ?_
    refine TL_nil ?_
    refine TZ_one 2 (by kernel_rfl) rfl ?_
    refine TL_pure rfl rfl rfl rfl (op_load_agg ag41 sz41 rfl rfl rfl) ?_
    refine TL_nil ?_
    refine TZ_one 3 (by kernel_rfl) rfl ?_
    refine TL_buildSlice 15 (es := List.map a_Term [p1]) el24 z41 rfl rfl rfl rfl rfl rfl rfl rfl rfl ?_
    refine TL_nil ?_
    refine TZ_one 4 (by kernel_rfl) rfl ?_
    refine TL_appendT (f := a_Term) (a := r6) (b := [p1]) el24 z41 rfl rfl rfl rfl rfl rfl rfl (capI_spec hq9) rfl rfl rfl rfl rfl ?_
    refine TL_nil ?_
    refine TZ_pure 5 (by kernel_rfl) rfl rfl rfl rfl rfl (op_assign rfl) ?_
    refine TZ_done (by kernel_rfl) ?_
    refine T_keepH [4] [14] rfl rfl rfl rfl (by rw [hF]; rfl) ?_
    refine T_freeze 14 (by rw [hF]; rfl) rfl rfl rfl ?_
    refine T_ret ?_
    obtain rfl := someI hm
    refine ⟨[_], [], ⟨rfl, trivial⟩, ?_, rfl, rfl, rfl, rfl⟩
    rfl
  · refine ⟨_, rfl, ?_⟩
    refine TL_pure rfl rfl rfl rfl (op_load_agg ag41 sz41 rfl rfl rfl) ?_
    refine TL_nil ?_
    refine TZ_each [1, 3] (by kernel_rfl) rfl ?_
    refine ⟨?_, ?_⟩
    · refine ⟨_, rfl, ?_⟩
      refine TLE_call [] [(1000, 16)] [] (c_slices_Clone_impl_Term_impl_Term p0 r6 hr6) (fun _ => rfl) Try.call88 rfl rfl rfl rfl rfl trivial rfl rfl rfl rfl rfl rfl rfl rfl rfl rfl rfl ?_
      refine TL_nil ?_
      refine TZ_one 3 (by kernel_rfl) rfl ?_
      refine TL_buildSlice 18 (es := List.map a_Term [p1]) el24 z41 rfl rfl rfl rfl rfl rfl rfl rfl rfl ?_
      refine TL_nil ?_
      refine TZ_one 4 (by kernel_rfl) rfl ?_
      refine TL_appendT (f := a_Term) (a := r6) (b := [p1]) el24 z41 rfl rfl rfl rfl rfl rfl rfl (capI_spec hq9) rfl rfl rfl rfl rfl ?_
      refine TL_nil ?_
      refine TZ_pure 5 (by kernel_rfl) rfl rfl rfl rfl rfl (op_assign rfl) ?_
      refine TZ_done (by kernel_rfl) ?_
      refine T_keepH [4] [16] rfl rfl rfl rfl (by rw [hF]; rfl) ?_
      refine T_freeze 16 (by rw [hF]; rfl) rfl rfl rfl ?_
      refine T_ret ?_
      obtain rfl := someI hm
      refine ⟨[_], [], ⟨rfl, trivial⟩, ?_, rfl, rfl, rfl, rfl⟩
      rfl
    · refine ⟨_, rfl, ?_⟩
      refine TL_buildSlice 17 (es := List.map a_Term [p1]) el24 z41 rfl rfl rfl rfl rfl rfl rfl rfl rfl ?_
      refine TL_nil ?_
      refine TZ_one 1 (by kernel_rfl) rfl ?_
      refine TLE_call [] [(1000, 19)] [] (c_slices_Clone_impl_Term_impl_Term p0 r6 hr6) (fun _ => rfl) Try.call88 rfl rfl rfl rfl rfl trivial rfl rfl rfl rfl rfl rfl rfl rfl rfl rfl rfl ?_
      refine TL_nil ?_
      refine TZ_one 4 (by kernel_rfl) rfl ?_
      refine TL_appendT (f := a_Term) (a := r6) (b := [p1]) el24 z41 rfl rfl rfl rfl rfl rfl rfl (capI_spec hq9) rfl rfl rfl rfl rfl ?_
      refine TL_nil ?_
      refine TZ_pure 5 (by kernel_rfl) rfl rfl rfl rfl rfl (op_assign rfl) ?_
      refine TZ_done (by kernel_rfl) ?_
      refine T_keepH [4] [19] rfl rfl rfl rfl (by rw [hF]; rfl) ?_
      refine T_freeze 19 (by rw [hF]; rfl) rfl rfl rfl ?_
      refine T_ret ?_
      obtain rfl := someI hm
      refine ⟨[_], [], ⟨rfl, trivial⟩, ?_, rfl, rfl, rfl, rfl⟩
      rfl
theorem c_impl_LeastOf (p0 : List Term) (p1 : Term) (out : Int × Bool) (hm : m_impl_LeastOf p0 p1 = some out) : ACall Try.prog 35 [.sl 2 (List.map a_Term p0), .agg [.int .i64 p1.Const, .sl 1 (List.map a_i64 p1.Coeffs)]] [] (.tup [.int .i64 out.1, .bool out.2]) [] := by
  refine ACall.intro Try.func35 rfl Try.ntmps35 rfl (fun F hF => ?_)
  unfold m_impl_LeastOf at hm
  refine T_seq ?_
  refine T_region ?_
  refine TL_box 11 rfl rfl rfl rfl rfl rfl rfl ?_
  refine TL_pure rfl rfl rfl rfl (op_assign rfl) ?_
  refine TL_pure rfl rfl rfl rfl (op_assign rfl) ?_
  refine TL_nil ?_
  refine T_seq ?_
  refine T_region ?_
  refine TL_pure rfl rfl rfl rfl (op_assign rfl) ?_
  refine TL_nil ?_
  refine T_seq ?_
  refine T_seq ?_
  refine T_region ?_
  refine TL_pure rfl rfl rfl rfl (op_move rfl) ?_
  obtain ⟨r20, hr20, hm⟩ := bindS hm
  refine TL_callF (c_impl_areTerms p0 (13 : Int) r20 hr20) Try.call67 rfl rfl rfl rfl rfl ?_
  refine TL_pure rfl rfl rfl rfl (op_not rfl) ?_
  refine TL_pure rfl rfl rfl rfl (op_move rfl) ?_
  refine TL_split 22 rfl rfl rfl (fun hq => ?_) (fun hq => ?_)
  · replace hm := condT hq hm
    refine TL_pass rfl rfl rfl rfl rfl rfl rfl ?_
    refine TL_pass rfl rfl rfl rfl rfl rfl rfl ?_
    refine TL_pass rfl rfl rfl rfl rfl rfl rfl ?_
    refine TL_pure rfl rfl rfl rfl (op_pick_true rfl rfl) ?_
    refine TL_pure rfl rfl rfl rfl (op_move rfl) ?_
    refine TL_pass rfl rfl rfl rfl rfl rfl rfl ?_
    refine TL_pass rfl rfl rfl rfl rfl rfl rfl ?_
    refine TL_pass rfl rfl rfl rfl rfl rfl rfl ?_
    refine TL_pass rfl rfl rfl rfl rfl rfl rfl ?_
    refine TL_pure rfl rfl rfl rfl (op_pick_true rfl rfl) ?_
    refine TL_nil ?_
    refine T_cond_true rfl ?_
    refine T_seq ?_
    refine T_region ?_
    refine TL_pure rfl rfl rfl rfl (op_assign rfl) ?_
    refine TL_pure rfl rfl rfl rfl (op_assign rfl) ?_
    refine TL_nil ?_
    refine T_keepH [4, 5] [] rfl rfl rfl rfl (by rw [hF]; rfl) ?_
    refine T_ret ?_
    obtain rfl := someI hm
    refine ⟨[_, _], [], ⟨rfl, rfl, trivial⟩, ?_, rfl, rfl, rfl, rfl⟩
    rfl
  · replace hm := condF hq hm
    refine TL_want rfl rfl ?_
    refine TL_pure rfl rfl rfl rfl (op_load_agg ag41 sz41 rfl rfl rfl) ?_
    refine TL_want rfl rfl ?_
    obtain ⟨r24, hr24, hm⟩ := bindS hm
    refine TL_callF (c_impl_ValidTerm p1 r24 hr24) Try.call68 rfl rfl rfl rfl rfl ?_
    refine TL_want rfl rfl ?_
    refine TL_pure rfl rfl rfl rfl (op_not rfl) ?_
    refine TL_pure rfl rfl rfl rfl (op_pick_false rfl rfl) ?_
    refine TL_pure rfl rfl rfl rfl (op_move rfl) ?_
    refine TL_split 27 rfl rfl rfl (fun hq => ?_) (fun hq => ?_)
    · replace hm := condT hq hm
      refine TL_pass rfl rfl rfl rfl rfl rfl rfl ?_
      refine TL_pass rfl rfl rfl rfl rfl rfl rfl ?_
      refine TL_pass rfl rfl rfl rfl rfl rfl rfl ?_
      refine TL_pass rfl rfl rfl rfl rfl rfl rfl ?_
      refine TL_pure rfl rfl rfl rfl (op_pick_true rfl rfl) ?_
      refine TL_nil ?_
      refine T_cond_true rfl ?_
      refine T_seq ?_
      refine T_region ?_
      refine TL_pure rfl rfl rfl rfl (op_assign rfl) ?_
      refine TL_pure rfl rfl rfl rfl (op_assign rfl) ?_
      refine TL_nil ?_
      refine T_keepH [4, 5] [] rfl rfl rfl rfl (by rw [hF]; rfl) ?_
      refine T_ret ?_
      obtain rfl := someI hm
      refine ⟨[_, _], [], ⟨rfl, rfl, trivial⟩, ?_, rfl, rfl, rfl, rfl⟩
      rfl
    · replace hm := condF hq hm
      refine TL_want rfl rfl ?_
      refine TL_pure rfl rfl rfl rfl (op_load_agg ag41 sz41 rfl rfl rfl) ?_
      refine TL_want rfl rfl ?_
      refine TL_pure rfl rfl rfl rfl (op_move rfl) ?_
      refine TL_want rfl rfl ?_
      obtain ⟨r30, hr30, hm⟩ := bindS hm
      refine TL_callF (c_impl_Term_coeff p1 (9 : Int) r30 hr30) Try.call69 rfl rfl rfl rfl rfl ?_
      refine TL_want rfl rfl ?_
      refine TL_pure rfl rfl rfl rfl (op_neq rfl rfl) ?_
      refine TL_pure rfl rfl rfl rfl (op_pick_false rfl rfl) ?_
      refine TL_nil ?_
      refine T_cond rfl (fun hq => ?_) (fun hq => ?_)
      · replace hm := condT hq hm
        refine T_seq ?_
        refine T_region ?_
        refine TL_pure rfl rfl rfl rfl (op_assign rfl) ?_
        refine TL_pure rfl rfl rfl rfl (op_assign rfl) ?_
        refine TL_nil ?_
        refine T_keepH [4, 5] [] rfl rfl rfl rfl (by rw [hF]; rfl) ?_
        refine T_ret ?_
        obtain rfl := someI hm
        refine ⟨[_, _], [], ⟨rfl, rfl, trivial⟩, ?_, rfl, rfl, rfl, rfl⟩
        rfl
      · replace hm := condF hq hm
        refine T_skip ?_
        refine T_seq ?_
        refine T_seq ?_
        refine T_region ?_
        refine TL_pure rfl rfl rfl rfl (op_move rfl) ?_
        refine TL_pure rfl rfl rfl rfl (op_lenT Try.underlying24 rfl (List.length_map _)) ?_
        refine TL_fact (fun _ _ _ hr => RelP.slLen (i := 33) rfl hr) (fun hlen34 => ?_)
        rw [List.length_map] at hlen34
        refine TL_pure rfl rfl rfl rfl (op_move rfl) ?_
        refine TL_nil ?_
        refine T_block ?_
        refine T_keepH [0, 3, 6, 33, 34, 35] [11] rfl rfl rfl rfl (by rw [hF]; rfl) ?_
        refine T_loop ?_
        obtain ⟨u0, hl0, hm⟩ := bindS hm
        refine TR_forL2 p0 (m_impl_LeastOf_L0) (fun (s0 : Unit) => (.inl ())) (fun n0 (s0 : Unit) => ⟨[(0, .sl 2 (List.map a_Term p0)), (3, .ptr 11 0 0), (6, .int .i64 (9 : Int)), (33, .sl 2 (List.map a_Term p0)), (34, .int .i64 (p0.length : Int)), (35, .int .i64 (n0 : Int))], [(11, .box [.int .i64 p1.Const, .sl 1 (List.map a_i64 p1.Coeffs)])]⟩) (fun u0 => match u0 with | .inl u0 => .exit 0 | .inr u0 => .ret) (fun u0 => match u0 with | .inl u0 => ⟨[(0, .sl 2 (List.map a_Term p0)), (3, .ptr 11 0 0), (6, .int .i64 (9 : Int))], [(11, .box [.int .i64 p1.Const, .sl 1 (List.map a_i64 p1.Coeffs)])]⟩ | .inr u0 => ⟨[(4, .int .i64 u0.1), (5, .bool u0.2)], []⟩) (fun u0 => m_impl_LeastOf_A0 p0 p1 u0 = some out) hl0 hm (fun u0 hm => ?_) (fun hx0 s0 hm => ?_) (fun hx0 n0 x0 s0 c0 hxn0 hlt0 hm hc0 => ?_)
        · rcases u0 with u0 | u0
          · unfold m_impl_LeastOf_A0 at hm
            refine T_join (fun (j0 : Int × (List Int)) => ⟨[(0, .sl 2 (List.map a_Term p0)), (6, .int .i64 (9 : Int)), (9, .ptr 31 0 0)], [(29, .arr ⟨false, true⟩ 1 2 (List.map a_i64 j0.2)), (31, .box [.int .i64 j0.1, .ow 29])]⟩) (fun j0 => m_impl_LeastOf_J0 p0 j0 = some out) (fun j0 hm => ?_) (fun hj0 => ?_)
            · unfold m_impl_LeastOf_J0 at hm
              refine T_seq ?_
              refine T_seq ?_
              refine T_region ?_
              refine TL_pure rfl rfl rfl rfl (op_load_agg ag41 sz41 rfl rfl rfl) ?_
              obtain ⟨r51, hr51, hm⟩ := bindS hm
              refine TL_callF (c_impl_ValidTerm (Term.mk j0.1 j0.2) r51 hr51) Try.call68 rfl rfl rfl rfl rfl ?_
              refine TL_pure rfl rfl rfl rfl (op_not rfl) ?_
              refine TL_nil ?_
              refine T_cond rfl (fun hq => ?_) (fun hq => ?_)
              · replace hm := condT hq hm
                refine T_seq ?_
                refine T_region ?_
                refine TL_pure rfl rfl rfl rfl (op_assign rfl) ?_
                refine TL_pure rfl rfl rfl rfl (op_assign rfl) ?_
                refine TL_nil ?_
                refine T_keepH [4, 5] [] rfl rfl rfl rfl (by rw [hF]; rfl) ?_
                refine T_ret ?_
                obtain rfl := someI hm
                refine ⟨[_, _], [], ⟨rfl, rfl, trivial⟩, ?_, rfl, rfl, rfl, rfl⟩
                rfl
              · replace hm := condF hq hm
                refine T_skip ?_
                refine T_seq ?_
                refine T_region ?_
                refine TL_pure rfl rfl rfl rfl (op_move rfl) ?_
                refine TL_pure rfl rfl rfl rfl (op_load_agg ag41 sz41 rfl rfl rfl) ?_
                refine TL_freeze 29 (by rw [hF]; rfl) rfl rfl rfl ?_
                obtain ⟨r56, hr56, hm⟩ := bindS hm
                refine TL_callT (c_impl_with p0 (Term.mk j0.1 j0.2) r56 hr56) Try.call72 rfl rfl rfl rfl rfl ?_
                refine TL_pure rfl rfl rfl rfl (op_move rfl) ?_
                obtain ⟨r58, hr58, hm⟩ := bindS hm
                refine TL_callO [(1000, 156)] (c_impl_allSymbols (9 : Int) r58 hr58) Try.call50 rfl rfl rfl rfl rfl rfl rfl rfl rfl rfl rfl rfl rfl ?_
                refine TL_freeze 156 (by rw [hF]; rfl) rfl rfl rfl ?_
                obtain ⟨r59, hr59, hm⟩ := bindS hm
                refine TL_callT (c_impl_eliminated r56 r58 r59 hr59) Try.call49 rfl rfl rfl rfl rfl ?_
                refine TL_pure rfl rfl rfl rfl (op_move rfl) ?_
                refine TL_pure rfl rfl rfl rfl (op_extract rfl rfl) ?_
                refine TL_pure rfl rfl rfl rfl (op_extract rfl rfl) ?_
                refine TL_pure rfl rfl rfl rfl (op_extract rfl rfl) ?_
                refine TL_pure rfl rfl rfl rfl (op_assign rfl) ?_
                refine TL_pure rfl rfl rfl rfl (op_assign rfl) ?_
                refine TL_pure rfl rfl rfl rfl (op_assign rfl) ?_
                refine TL_nil ?_
                refine T_seq ?_
                refine T_seq ?_
                refine T_region ?_
                refine TL_pure rfl rfl rfl rfl (op_move rfl) ?_
                refine TL_pure rfl rfl rfl rfl (op_not rfl) ?_
                refine TL_nil ?_
                refine T_cond rfl (fun hq => ?_) (fun hq => ?_)
                · replace hm := condT hq hm
                  refine T_seq ?_
                  refine T_region ?_
                  refine TL_pure rfl rfl rfl rfl (op_assign rfl) ?_
                  refine TL_pure rfl rfl rfl rfl (op_assign rfl) ?_
                  refine TL_nil ?_
                  refine T_keepH [4, 5] [] rfl rfl rfl rfl (by rw [hF]; rfl) ?_
                  refine T_ret ?_
                  obtain rfl := someI hm
                  refine ⟨[_, _], [], ⟨rfl, rfl, trivial⟩, ?_, rfl, rfl, rfl, rfl⟩
                  rfl
                · replace hm := condF hq hm
                  refine T_skip ?_
                  refine T_seq ?_
                  refine T_region ?_
                  refine TL_pure rfl rfl rfl rfl (op_assign rfl) ?_
                  refine TL_pure rfl rfl rfl rfl (op_assign rfl) ?_
                  refine TL_nil ?_
                  refine T_seq ?_
                  refine T_seq ?_
                  refine T_region ?_
                  refine TL_pure rfl rfl rfl rfl (op_move rfl) ?_
                  refine TL_pure rfl rfl rfl rfl (op_lenT Try.underlying71 rfl (List.length_map _)) ?_
                  refine TL_fact (fun _ _ _ hr => RelP.slLen (i := 65) rfl hr) (fun hlen66 => ?_)
                  rw [List.length_map] at hlen66
                  refine TL_pure rfl rfl rfl rfl (op_move rfl) ?_
                  refine TL_nil ?_
                  refine T_block ?_
                  refine T_keepH [6, 13, 14, 65, 66, 67] [] rfl rfl rfl rfl (by rw [hF]; rfl) ?_
                  refine T_loop ?_
                  obtain ⟨u1, hl1, hm⟩ := bindS hm
                  refine TR_forL2 r59.1 (m_impl_LeastOf_L1) (fun (s1 : Int × Bool) => (.inl (s1.1, s1.2))) (fun n1 (s1 : Int × Bool) => ⟨[(6, .int .i64 (9 : Int)), (13, .int .i64 s1.1), (14, .bool s1.2), (65, .sl 3 (List.map a_combination r59.1)), (66, .int .i64 (r59.1.length : Int)), (67, .int .i64 (n1 : Int))], []⟩) (fun u1 => match u1 with | .inl u1 => .exit 2 | .inr u1 => .ret) (fun u1 => match u1 with | .inl u1 => ⟨[(13, .int .i64 u1.1), (14, .bool u1.2)], []⟩ | .inr u1 => ⟨[(4, .int .i64 u1.1), (5, .bool u1.2)], []⟩) (fun u1 => m_impl_LeastOf_A1 u1 = some out) hl1 hm (fun u1 hm => ?_) (fun hx1 s1 hm => ?_) (fun hx1 n1 x1 s1 c1 hxn1 hlt1 hm hc1 => ?_)
                  · rcases u1 with u1 | u1
                    · unfold m_impl_LeastOf_A1 at hm
                      refine T_seq ?_
                      refine T_region ?_
                      refine TL_pure rfl rfl rfl rfl (op_move rfl) ?_
                      refine TL_pure rfl rfl rfl rfl (op_move rfl) ?_
                      refine TL_pure rfl rfl rfl rfl (op_assign rfl) ?_
                      refine TL_pure rfl rfl rfl rfl (op_assign rfl) ?_
                      refine TL_nil ?_
                      refine T_keepH [4, 5] [] rfl rfl rfl rfl (by rw [hF]; rfl) ?_
                      refine T_ret ?_
                      obtain rfl := someI hm
                      refine ⟨[_, _], [], ⟨rfl, rfl, trivial⟩, ?_, rfl, rfl, rfl, rfl⟩
                      rfl
                    · unfold m_impl_LeastOf_A1 at hm
                      obtain rfl := someI hm
                      refine ⟨[_, _], [], ⟨rfl, rfl, trivial⟩, ?_, rfl, rfl, rfl, rfl⟩
                      rfl
                  · refine T_seq ?_
                    refine T_region ?_
                    refine TL_pure rfl rfl rfl rfl (op_lss rfl rfl) ?_
                    refine TL_nil ?_
                    refine T_seq ?_
                    refine T_if_false rfl (decide_eq_false (by simp)) ?_
                    refine T_keepH [13, 14] [] rfl rfl rfl rfl (by rw [hF]; rfl) ?_
                    refine T_exit ?_
                    exact hx1 (.inl (s1.1, s1.2)) hm
                  · unfold m_impl_LeastOf_L1 at hm
                    refine T_seq ?_
                    refine T_region ?_
                    refine TL_pure rfl rfl rfl rfl (op_lss rfl rfl) ?_
                    refine TL_nil ?_
                    refine T_seq ?_
                    refine T_if_true rfl (decide_eq_true (Int.ofNat_lt.2 hlt1)) ?_
                    refine T_skip ?_
                    refine T_seq ?_
                    refine T_block ?_
                    refine T_seq ?_
                    refine T_region ?_
                    refine TL_pure rfl rfl rfl rfl (op_index_sl el71 rfl rfl rfl (get_map hxn1) rfl) ?_
                    refine TL_pure rfl rfl rfl rfl (op_load_agg ag77 sz77 rfl rfl rfl) ?_
                    refine TL_alloc 159 z77 rfl rfl rfl rfl rfl rfl rfl ?_
                    refine TL_store_box sz77 rfl rfl rfl rfl rfl rfl rfl rfl rfl ?_
                    refine TL_nil ?_
                    refine T_seq ?_
                    refine T_region ?_
                    refine TL_pure rfl rfl rfl rfl (op_fieldAddr fa77_0 rfl rfl) ?_
                    refine TL_pure rfl rfl rfl rfl (op_load_agg ag41 sz41 rfl rfl rfl) ?_
                    refine TL_pure rfl rfl rfl rfl (op_move rfl) ?_
                    obtain ⟨r74, hr74, hm⟩ := bindS hm
                    refine TL_callF (c_impl_Term_coeff x1.term (9 : Int) r74 hr74) Try.call69 rfl rfl rfl rfl rfl ?_
                    refine TL_pure rfl rfl rfl rfl (op_assign rfl) ?_
                    refine TL_nil ?_
                    refine T_seq ?_
                    refine T_seq ?_
                    refine T_region ?_
                    refine TL_pure rfl rfl rfl rfl (op_move rfl) ?_
                    refine TL_pure rfl rfl rfl rfl (op_eql rfl rfl) ?_
                    refine TL_nil ?_
                    refine T_cond rfl (fun hq => ?_) (fun hq => ?_)
                    · replace hm := condT hq hm
                      refine T_seq ?_
                      refine T_seq ?_
                      refine T_region ?_
                      refine TL_pure rfl rfl rfl rfl (op_fieldAddr fa77_0 rfl rfl) ?_
                      refine TL_pure rfl rfl rfl rfl (op_fieldAddr fa41_0 rfl rfl) ?_
                      refine TL_pure rfl rfl rfl rfl (op_load_one ag2 rfl rfl) ?_
                      refine TL_pure rfl rfl rfl rfl (op_lss rfl rfl) ?_
                      refine TL_nil ?_
                      refine T_cond rfl (fun hq => ?_) (fun hq => ?_)
                      · replace hm := condT hq hm
                        refine T_seq ?_
                        refine T_region ?_
                        refine TL_pure rfl rfl rfl rfl (op_assign rfl) ?_
                        refine TL_pure rfl rfl rfl rfl (op_assign rfl) ?_
                        refine TL_nil ?_
                        refine T_keepH [4, 5] [] rfl rfl rfl rfl (by rw [hF]; rfl) ?_
                        refine T_ret ?_
                        obtain rfl := someI hm
                        have hn := CtlOK_out hc1
                        exact hx1 (.inr ((0 : Int), false)) hn
                      · replace hm := condF hq hm
                        refine T_skip ?_
                        refine T_exit ?_
                        refine T_region ?_
                        refine TL_pure rfl rfl rfl rfl (op_addN rfl rfl (Nat.lt_of_lt_of_le hlt1 hlen66)) ?_
                        refine TL_pure rfl rfl rfl rfl (op_move rfl) ?_
                        refine TL_nil ?_
                        refine TR_keepH [6, 13, 14, 65, 66, 67] [] rfl rfl rfl rfl (by rw [hF]; rfl) ?_
                        obtain rfl := someI hm
                        have hn := CtlOK_next hc1
                        exact hn _ rfl
                    · replace hm := condF hq hm
                      refine T_skip ?_
                      refine T_seq ?_
                      refine T_region ?_
                      refine TL_pure rfl rfl rfl rfl (op_fieldAddr fa77_0 rfl rfl) ?_
                      refine TL_pure rfl rfl rfl rfl (op_fieldAddr fa41_0 rfl rfl) ?_
                      refine TL_pure rfl rfl rfl rfl (op_load_one ag2 rfl rfl) ?_
                      refine TL_pure rfl rfl rfl rfl (op_move rfl) ?_
                      obtain ⟨r85, hr85, hm⟩ := bindS hm
                      refine TL_callF (c_impl_divFloor x1.term.Const r74 r85 hr85) Try.call73 rfl rfl rfl rfl rfl ?_
                      refine TL_pure rfl rfl rfl rfl (op_negW rfl) ?_
                      refine TL_pure rfl rfl rfl rfl (op_assign rfl) ?_
                      refine TL_nil ?_
                      refine T_seq ?_
                      refine T_region ?_
                      refine TL_pure rfl rfl rfl rfl (op_move rfl) ?_
                      refine TL_pure rfl rfl rfl rfl (op_not rfl) ?_
                      refine TL_pure rfl rfl rfl rfl (op_move rfl) ?_
                      refine TL_join 4 (fun _ : Unit => ⟨[(6, .int .i64 (9 : Int)), (13, .int .i64 s1.1), (14, .bool s1.2), (18, .int .i64 (w64 (0 - r85))), (65, .sl 3 (List.map a_combination r59.1)), (66, .int .i64 (r59.1.length : Int)), (67, .int .i64 (n1 : Int)), (93, .bool ((!s1.2) || (decide (s1.1 < (w64 (0 - r85))))))], []⟩) (fun _ => True) (fun _ _ => ?_) (fun hjj => ?_)
                      · refine TL_nil ?_
                        refine T_cond rfl (fun hq => ?_) (fun hq => ?_)
                        · replace hm := condT hq hm
                          refine T_region ?_
                          refine TL_pure rfl rfl rfl rfl (op_move rfl) ?_
                          refine TL_pure rfl rfl rfl rfl (op_assign rfl) ?_
                          refine TL_pure rfl rfl rfl rfl (op_assign rfl) ?_
                          refine TL_nil ?_
                          refine T_region ?_
                          refine TL_pure rfl rfl rfl rfl (op_addN rfl rfl (Nat.lt_of_lt_of_le hlt1 hlen66)) ?_
                          refine TL_pure rfl rfl rfl rfl (op_move rfl) ?_
                          refine TL_nil ?_
                          refine TR_keepH [6, 13, 14, 65, 66, 67] [] rfl rfl rfl rfl (by rw [hF]; rfl) ?_
                          obtain rfl := someI hm
                          have hn := CtlOK_next hc1
                          exact hn _ rfl
                        · replace hm := condF hq hm
                          refine T_skip ?_
                          refine T_region ?_
                          refine TL_pure rfl rfl rfl rfl (op_addN rfl rfl (Nat.lt_of_lt_of_le hlt1 hlen66)) ?_
                          refine TL_pure rfl rfl rfl rfl (op_move rfl) ?_
                          refine TL_nil ?_
                          refine TR_keepH [6, 13, 14, 65, 66, 67] [] rfl rfl rfl rfl (by rw [hF]; rfl) ?_
                          obtain rfl := someI hm
                          have hn := CtlOK_next hc1
                          exact hn _ rfl
                      · refine TL_split 89 rfl rfl rfl (fun hq => ?_) (fun hq => ?_)
                        · refine TL_pass rfl rfl rfl rfl rfl rfl rfl ?_
                          refine TL_pass rfl rfl rfl rfl rfl rfl rfl ?_
                          refine TL_pass rfl rfl rfl rfl rfl rfl rfl ?_
                          refine TL_pure rfl rfl rfl rfl (op_pick_true rfl rfl) ?_
                          refine TL_keepH [6, 13, 14, 18, 65, 66, 67, 93] [] rfl rfl rfl rfl (by rw [hF]; rfl) ?_
                          exact TL_cast _ (by rw [hq]; rfl) (hjj () trivial)
                        · refine TL_want rfl rfl ?_
                          refine TL_pure rfl rfl rfl rfl (op_move rfl) ?_
                          refine TL_want rfl rfl ?_
                          refine TL_pure rfl rfl rfl rfl (op_move rfl) ?_
                          refine TL_want rfl rfl ?_
                          refine TL_pure rfl rfl rfl rfl (op_gtr rfl rfl) ?_
                          refine TL_pure rfl rfl rfl rfl (op_pick_false rfl rfl) ?_
                          refine TL_keepH [6, 13, 14, 18, 65, 66, 67, 93] [] rfl rfl rfl rfl (by rw [hF]; rfl) ?_
                          exact TL_cast _ (by rw [hq]; rfl) (hjj () trivial)
            · refine T_drawZ [3, 4, 7] mix (by kernel_rfl) rfl ?_
              obtain ⟨r45, hr45, hm⟩ := bindS hm
              obtain ⟨r49, hr49, hm⟩ := bindS hm
              refine TZ_pure 0 (by kernel_rfl) rfl rfl rfl rfl rfl (op_move rfl) ?_
              refine TZ_each [1, 2, 4, 6] (by kernel_rfl) rfl ?_
              refine ⟨?_, ?_, ?_, ?_⟩
              · refine ⟨_, rfl, ?_⟩
                refine TL_callO [(1000, 165)] (c_impl_symbolTerm (9 : Int) r45 hr45) Try.call71 rfl rfl rfl rfl rfl rfl rfl rfl rfl rfl rfl rfl rfl ?_
                refine TL_nil ?_
                refine TZ_each [2, 4, 6] (by kernel_rfl) rfl ?_
                refine ⟨?_, ?_, ?_⟩
                · refine ⟨_, rfl, ?_⟩
                  refine TL_pure rfl rfl rfl rfl (op_load_agg ag41 sz41 rfl rfl rfl) ?_
                  refine TL_nil ?_
                  refine TZ_each [3, 4, 6] (by kernel_rfl) rfl ?_
                  refine ⟨?_, ?_, ?_⟩
                  · refine ⟨_, rfl, ?_⟩
                    refine TL_freeze 165 (by rw [hF]; rfl) rfl rfl rfl ?_
                    refine TL_buildSlice 170 (es := List.map a_Term [r45, p1]) el24 z41 rfl rfl rfl rfl rfl rfl rfl rfl rfl ?_
                    refine TL_nil ?_
                    refine TZ_each [4, 6] (by kernel_rfl) rfl ?_
                    refine ⟨?_, ?_⟩
                    · refine ⟨_, rfl, ?_⟩
                      refine TL_buildSlice 173 (es := List.map a_i64 [(1 : Int), (-1 : Int)]) el26 z2 rfl rfl rfl rfl rfl rfl rfl rfl rfl ?_
                      refine TL_nil ?_
                      refine TZ_each [5, 6] (by kernel_rfl) rfl ?_
                      refine ⟨?_, ?_⟩
                      · refine ⟨_, rfl, ?_⟩
                        refine TL_callO [(1000, 175)] (c_impl_combined [r45, p1] [(1 : Int), (-1 : Int)] r49 hr49) Try.call70 rfl rfl rfl rfl rfl rfl rfl rfl rfl rfl rfl rfl rfl ?_
                        refine TL_nil ?_
                        refine TZ_one 6 (by kernel_rfl) rfl ?_
                        refine TL_alloc 177 z41 rfl rfl rfl rfl rfl rfl rfl ?_
                        refine TL_nil ?_
                        refine TZ_one 7 (by kernel_rfl) rfl ?_
                        refine TL_store_box sz41 rfl rfl rfl rfl rfl rfl rfl rfl rfl ?_
                        refine TL_nil ?_
                        refine TZ_done (by kernel_rfl) ?_
                        refine T_keepH [0, 6, 9] [175, 177] rfl rfl rfl rfl (by rw [hF]; rfl) ?_
                        refine T_ren [(175, 29), (177, 31)] rfl rfl rfl (by rw [hF]; rfl) ?_
                        exact hj0 (r49.Const, r49.Coeffs) hm
                      · refine ⟨_, rfl, ?_⟩
                        refine TL_alloc 176 z41 rfl rfl rfl rfl rfl rfl rfl ?_
                        refine TL_nil ?_
                        refine TZ_one 5 (by kernel_rfl) rfl ?_
                        refine TL_callO [(1000, 178)] (c_impl_combined [r45, p1] [(1 : Int), (-1 : Int)] r49 hr49) Try.call70 rfl rfl rfl rfl rfl rfl rfl rfl rfl rfl rfl rfl rfl ?_
                        refine TL_nil ?_
                        refine TZ_one 7 (by kernel_rfl) rfl ?_
                        refine TL_store_box sz41 rfl rfl rfl rfl rfl rfl rfl rfl rfl ?_
                        refine TL_nil ?_
                        refine TZ_done (by kernel_rfl) ?_
                        refine T_keepH [0, 6, 9] [176, 178] rfl rfl rfl rfl (by rw [hF]; rfl) ?_
                        refine T_ren [(176, 31), (178, 29)] rfl rfl rfl (by rw [hF]; rfl) ?_
                        refine T_keepH [0, 6, 9] [29, 31] rfl rfl rfl rfl (by rw [hF]; rfl) ?_
                        exact hj0 (r49.Const, r49.Coeffs) hm
                    · refine ⟨_, rfl, ?_⟩
                      refine TL_alloc 174 z41 rfl rfl rfl rfl rfl rfl rfl ?_
                      refine TL_nil ?_
                      refine TZ_one 4 (by kernel_rfl) rfl ?_
                      refine TL_buildSlice 179 (es := List.map a_i64 [(1 : Int), (-1 : Int)]) el26 z2 rfl rfl rfl rfl rfl rfl rfl rfl rfl ?_
                      refine TL_nil ?_
                      refine TZ_one 5 (by kernel_rfl) rfl ?_
                      refine TL_callO [(1000, 180)] (c_impl_combined [r45, p1] [(1 : Int), (-1 : Int)] r49 hr49) Try.call70 rfl rfl rfl rfl rfl rfl rfl rfl rfl rfl rfl rfl rfl ?_
                      refine TL_nil ?_
                      refine TZ_one 7 (by kernel_rfl) rfl ?_
                      refine TL_store_box sz41 rfl rfl rfl rfl rfl rfl rfl rfl rfl ?_
                      refine TL_nil ?_
                      refine TZ_done (by kernel_rfl) ?_
                      refine T_keepH [0, 6, 9] [174, 180] rfl rfl rfl rfl (by rw [hF]; rfl) ?_
                      refine T_ren [(174, 31), (180, 29)] rfl rfl rfl (by rw [hF]; rfl) ?_
                      refine T_keepH [0, 6, 9] [29, 31] rfl rfl rfl rfl (by rw [hF]; rfl) ?_
                      exact hj0 (r49.Const, r49.Coeffs) hm
                  · refine ⟨_, rfl, ?_⟩
                    refine TL_buildSlice 171 (es := List.map a_i64 [(1 : Int), (-1 : Int)]) el26 z2 rfl rfl rfl rfl rfl rfl rfl rfl rfl ?_
                    refine TL_nil ?_
                    refine TZ_each [3, 6] (by kernel_rfl) rfl ?_
                    refine ⟨?_, ?_⟩
                    · refine ⟨_, rfl, ?_⟩
                      refine TL_freeze 165 (by rw [hF]; rfl) rfl rfl rfl ?_
                      refine TL_buildSlice 181 (es := List.map a_Term [r45, p1]) el24 z41 rfl rfl rfl rfl rfl rfl rfl rfl rfl ?_
                      refine TL_nil ?_
                      refine TZ_each [5, 6] (by kernel_rfl) rfl ?_
                      refine ⟨?_, ?_⟩
                      · refine ⟨_, rfl, ?_⟩
                        refine TL_callO [(1000, 183)] (c_impl_combined [r45, p1] [(1 : Int), (-1 : Int)] r49 hr49) Try.call70 rfl rfl rfl rfl rfl rfl rfl rfl rfl rfl rfl rfl rfl ?_
                        refine TL_nil ?_
                        refine TZ_one 6 (by kernel_rfl) rfl ?_
                        refine TL_alloc 185 z41 rfl rfl rfl rfl rfl rfl rfl ?_
                        refine TL_nil ?_
                        refine TZ_one 7 (by kernel_rfl) rfl ?_
                        refine TL_store_box sz41 rfl rfl rfl rfl rfl rfl rfl rfl rfl ?_
                        refine TL_nil ?_
                        refine TZ_done (by kernel_rfl) ?_
                        refine T_keepH [0, 6, 9] [183, 185] rfl rfl rfl rfl (by rw [hF]; rfl) ?_
                        refine T_ren [(183, 29), (185, 31)] rfl rfl rfl (by rw [hF]; rfl) ?_
                        exact hj0 (r49.Const, r49.Coeffs) hm
                      · refine ⟨_, rfl, ?_⟩
                        refine TL_alloc 184 z41 rfl rfl rfl rfl rfl rfl rfl ?_
                        refine TL_nil ?_
                        refine TZ_one 5 (by kernel_rfl) rfl ?_
                        refine TL_callO [(1000, 186)] (c_impl_combined [r45, p1] [(1 : Int), (-1 : Int)] r49 hr49) Try.call70 rfl rfl rfl rfl rfl rfl rfl rfl rfl rfl rfl rfl rfl ?_
                        refine TL_nil ?_
                        refine TZ_one 7 (by kernel_rfl) rfl ?_
                        refine TL_store_box sz41 rfl rfl rfl rfl rfl rfl rfl rfl rfl ?_
                        refine TL_nil ?_
                        refine TZ_done (by kernel_rfl) ?_
                        refine T_keepH [0, 6, 9] [184, 186] rfl rfl rfl rfl (by rw [hF]; rfl) ?_
                        refine T_ren [(184, 31), (186, 29)] rfl rfl rfl (by rw [hF]; rfl) ?_
                        refine T_keepH [0, 6, 9] [29, 31] rfl rfl rfl rfl (by rw [hF]; rfl) ?_
                        exact hj0 (r49.Const, r49.Coeffs) hm
                    · refine ⟨_, rfl, ?_⟩
                      refine TL_alloc 182 z41 rfl rfl rfl rfl rfl rfl rfl ?_
                      refine TL_nil ?_
                      refine TZ_one 3 (by kernel_rfl) rfl ?_
                      refine TL_freeze 165 (by rw [hF]; rfl) rfl rfl rfl ?_
                      refine TL_buildSlice 187 (es := List.map a_Term [r45, p1]) el24 z41 rfl rfl rfl rfl rfl rfl rfl rfl rfl ?_
                      refine TL_nil ?_
                      refine TZ_one 5 (by kernel_rfl) rfl ?_
                      refine TL_callO [(1000, 188)] (c_impl_combined [r45, p1] [(1 : Int), (-1 : Int)] r49 hr49) Try.call70 rfl rfl rfl rfl rfl rfl rfl rfl rfl rfl rfl rfl rfl ?_
                      refine TL_nil ?_
                      refine TZ_one 7 (by kernel_rfl) rfl ?_
                      refine TL_store_box sz41 rfl rfl rfl rfl rfl rfl rfl rfl rfl ?_
                      refine TL_nil ?_
                      refine TZ_done (by kernel_rfl) ?_
                      refine T_keepH [0, 6, 9] [182, 188] rfl rfl rfl rfl (by rw [hF]; rfl) ?_
                      refine T_ren [(182, 31), (188, 29)] rfl rfl rfl (by rw [hF]; rfl) ?_
                      refine T_keepH [0, 6, 9] [29, 31] rfl rfl rfl rfl (by rw [hF]; rfl) ?_
                      exact hj0 (r49.Const, r49.Coeffs) hm
                  · refine ⟨_, rfl, ?_⟩
                    refine TL_alloc 172 z41 rfl rfl rfl rfl rfl rfl rfl ?_
                    refine TL_nil ?_
                    refine TZ_each [3, 4] (by kernel_rfl) rfl ?_
                    refine ⟨?_, ?_⟩
                    · refine ⟨_, rfl, ?_⟩
                      refine TL_freeze 165 (by rw [hF]; rfl) rfl rfl rfl ?_
                      refine TL_buildSlice 189 (es := List.map a_Term [r45, p1]) el24 z41 rfl rfl rfl rfl rfl rfl rfl rfl rfl ?_
                      refine TL_nil ?_
                      refine TZ_one 4 (by kernel_rfl) rfl ?_
                      refine TL_buildSlice 191 (es := List.map a_i64 [(1 : Int), (-1 : Int)]) el26 z2 rfl rfl rfl rfl rfl rfl rfl rfl rfl ?_
                      refine TL_nil ?_
                      refine TZ_one 5 (by kernel_rfl) rfl ?_
                      refine TL_callO [(1000, 192)] (c_impl_combined [r45, p1] [(1 : Int), (-1 : Int)] r49 hr49) Try.call70 rfl rfl rfl rfl rfl rfl rfl rfl rfl rfl rfl rfl rfl ?_
                      refine TL_nil ?_
                      refine TZ_one 7 (by kernel_rfl) rfl ?_
                      refine TL_store_box sz41 rfl rfl rfl rfl rfl rfl rfl rfl rfl ?_
                      refine TL_nil ?_
                      refine TZ_done (by kernel_rfl) ?_
                      refine T_keepH [0, 6, 9] [172, 192] rfl rfl rfl rfl (by rw [hF]; rfl) ?_
                      refine T_ren [(172, 31), (192, 29)] rfl rfl rfl (by rw [hF]; rfl) ?_
                      refine T_keepH [0, 6, 9] [29, 31] rfl rfl rfl rfl (by rw [hF]; rfl) ?_
                      exact hj0 (r49.Const, r49.Coeffs) hm
                    · refine ⟨_, rfl, ?_⟩
                      refine TL_buildSlice 190 (es := List.map a_i64 [(1 : Int), (-1 : Int)]) el26 z2 rfl rfl rfl rfl rfl rfl rfl rfl rfl ?_
                      refine TL_nil ?_
                      refine TZ_one 3 (by kernel_rfl) rfl ?_
                      refine TL_freeze 165 (by rw [hF]; rfl) rfl rfl rfl ?_
                      refine TL_buildSlice 193 (es := List.map a_Term [r45, p1]) el24 z41 rfl rfl rfl rfl rfl rfl rfl rfl rfl ?_
                      refine TL_nil ?_
                      refine TZ_one 5 (by kernel_rfl) rfl ?_
                      refine TL_callO [(1000, 194)] (c_impl_combined [r45, p1] [(1 : Int), (-1 : Int)] r49 hr49) Try.call70 rfl rfl rfl rfl rfl rfl rfl rfl rfl rfl rfl rfl rfl ?_
                      refine TL_nil ?_
                      refine TZ_one 7 (by kernel_rfl) rfl ?_
                      refine TL_store_box sz41 rfl rfl rfl rfl rfl rfl rfl rfl rfl ?_
                      refine TL_nil ?_
                      refine TZ_done (by kernel_rfl) ?_
                      refine T_keepH [0, 6, 9] [172, 194] rfl rfl rfl rfl (by rw [hF]; rfl) ?_
                      refine T_ren [(172, 31), (194, 29)] rfl rfl rfl (by rw [hF]; rfl) ?_
                      refine T_keepH [0, 6, 9] [29, 31] rfl rfl rfl rfl (by rw [hF]; rfl) ?_
                      exact hj0 (r49.Const, r49.Coeffs) hm
                · refine ⟨_, rfl, ?_⟩
                  refine TL_buildSlice 168 (es := List.map a_i64 [(1 : Int), (-1 : Int)]) el26 z2 rfl rfl rfl rfl rfl rfl rfl rfl rfl ?_
                  refine TL_nil ?_
                  refine TZ_pure 2 (by kernel_rfl) rfl rfl rfl rfl rfl (op_load_agg ag41 sz41 rfl rfl rfl) ?_
                  refine TZ_each [3, 6] (by kernel_rfl) rfl ?_
                  refine ⟨?_, ?_⟩
                  · refine ⟨_, rfl, ?_⟩
                    refine TL_freeze 165 (by rw [hF]; rfl) rfl rfl rfl ?_
                    refine TL_buildSlice 195 (es := List.map a_Term [r45, p1]) el24 z41 rfl rfl rfl rfl rfl rfl rfl rfl rfl ?_
                    refine TL_nil ?_
                    refine TZ_each [5, 6] (by kernel_rfl) rfl ?_
                    refine ⟨?_, ?_⟩
                    · refine ⟨_, rfl, ?_⟩
                      refine TL_callO [(1000, 197)] (c_impl_combined [r45, p1] [(1 : Int), (-1 : Int)] r49 hr49) Try.call70 rfl rfl rfl rfl rfl rfl rfl rfl rfl rfl rfl rfl rfl ?_
                      refine TL_nil ?_
                      refine TZ_one 6 (by kernel_rfl) rfl ?_
                      refine TL_alloc 199 z41 rfl rfl rfl rfl rfl rfl rfl ?_
                      refine TL_nil ?_
                      refine TZ_one 7 (by kernel_rfl) rfl ?_
                      refine TL_store_box sz41 rfl rfl rfl rfl rfl rfl rfl rfl rfl ?_
                      refine TL_nil ?_
                      refine TZ_done (by kernel_rfl) ?_
                      refine T_keepH [0, 6, 9] [197, 199] rfl rfl rfl rfl (by rw [hF]; rfl) ?_
                      refine T_ren [(197, 29), (199, 31)] rfl rfl rfl (by rw [hF]; rfl) ?_
                      exact hj0 (r49.Const, r49.Coeffs) hm
                    · refine ⟨_, rfl, ?_⟩
                      refine TL_alloc 198 z41 rfl rfl rfl rfl rfl rfl rfl ?_
                      refine TL_nil ?_
                      refine TZ_one 5 (by kernel_rfl) rfl ?_
                      refine TL_callO [(1000, 200)] (c_impl_combined [r45, p1] [(1 : Int), (-1 : Int)] r49 hr49) Try.call70 rfl rfl rfl rfl rfl rfl rfl rfl rfl rfl rfl rfl rfl ?_
                      refine TL_nil ?_
                      refine TZ_one 7 (by kernel_rfl) rfl ?_
                      refine TL_store_box sz41 rfl rfl rfl rfl rfl rfl rfl rfl rfl ?_
                      refine TL_nil ?_
                      refine TZ_done (by kernel_rfl) ?_
                      refine T_keepH [0, 6, 9] [198, 200] rfl rfl rfl rfl (by rw [hF]; rfl) ?_
                      refine T_ren [(198, 31), (200, 29)] rfl rfl rfl (by rw [hF]; rfl) ?_
                      refine T_keepH [0, 6, 9] [29, 31] rfl rfl rfl rfl (by rw [hF]; rfl) ?_
                      exact hj0 (r49.Const, r49.Coeffs) hm
                  · refine ⟨_, rfl, ?_⟩
                    refine TL_alloc 196 z41 rfl rfl rfl rfl rfl rfl rfl ?_
                    refine TL_nil ?_
                    refine TZ_one 3 (by kernel_rfl) rfl ?_
                    refine TL_freeze 165 (by rw [hF]; rfl) rfl rfl rfl ?_
                    refine TL_buildSlice 201 (es := List.map a_Term [r45, p1]) el24 z41 rfl rfl rfl rfl rfl rfl rfl rfl rfl ?_
                    refine TL_nil ?_
                    refine TZ_one 5 (by kernel_rfl) rfl ?_
                    refine TL_callO [(1000, 202)] (c_impl_combined [r45, p1] [(1 : Int), (-1 : Int)] r49 hr49) Try.call70 rfl rfl rfl rfl rfl rfl rfl rfl rfl rfl rfl rfl rfl ?_
                    refine TL_nil ?_
                    refine TZ_one 7 (by kernel_rfl) rfl ?_
                    refine TL_store_box sz41 rfl rfl rfl rfl rfl rfl rfl rfl rfl ?_
                    refine TL_nil ?_
                    refine TZ_done (by kernel_rfl) ?_
                    refine T_keepH [0, 6, 9] [196, 202] rfl rfl rfl rfl (by rw [hF]; rfl) ?_
                    refine T_ren [(196, 31), (202, 29)] rfl rfl rfl (by rw [hF]; rfl) ?_
                    refine T_keepH [0, 6, 9] [29, 31] rfl rfl rfl rfl (by rw [hF]; rfl) ?_
                    exact hj0 (r49.Const, r49.Coeffs) hm
                · refine ⟨_, rfl, ?_⟩
                  refine TL_alloc 169 z41 rfl rfl rfl rfl rfl rfl rfl ?_
                  refine TL_nil ?_
                  refine TZ_each [2, 4] (by kernel_rfl) rfl ?_
                  refine ⟨?_, ?_⟩
                  · refine ⟨_, rfl, ?_⟩
                    refine TL_pure rfl rfl rfl rfl (op_load_agg ag41 sz41 rfl rfl rfl) ?_
                    refine TL_nil ?_
                    refine TZ_each [3, 4] (by kernel_rfl) rfl ?_
                    refine ⟨?_, ?_⟩
                    · refine ⟨_, rfl, ?_⟩
                      refine TL_freeze 165 (by rw [hF]; rfl) rfl rfl rfl ?_
                      refine TL_buildSlice 204 (es := List.map a_Term [r45, p1]) el24 z41 rfl rfl rfl rfl rfl rfl rfl rfl rfl ?_
                      refine TL_nil ?_
                      refine TZ_one 4 (by kernel_rfl) rfl ?_
                      refine TL_buildSlice 206 (es := List.map a_i64 [(1 : Int), (-1 : Int)]) el26 z2 rfl rfl rfl rfl rfl rfl rfl rfl rfl ?_
                      refine TL_nil ?_
                      refine TZ_one 5 (by kernel_rfl) rfl ?_
                      refine TL_callO [(1000, 207)] (c_impl_combined [r45, p1] [(1 : Int), (-1 : Int)] r49 hr49) Try.call70 rfl rfl rfl rfl rfl rfl rfl rfl rfl rfl rfl rfl rfl ?_
                      refine TL_nil ?_
                      refine TZ_one 7 (by kernel_rfl) rfl ?_
                      refine TL_store_box sz41 rfl rfl rfl rfl rfl rfl rfl rfl rfl ?_
                      refine TL_nil ?_
                      refine TZ_done (by kernel_rfl) ?_
                      refine T_keepH [0, 6, 9] [169, 207] rfl rfl rfl rfl (by rw [hF]; rfl) ?_
                      refine T_ren [(169, 31), (207, 29)] rfl rfl rfl (by rw [hF]; rfl) ?_
                      refine T_keepH [0, 6, 9] [29, 31] rfl rfl rfl rfl (by rw [hF]; rfl) ?_
                      exact hj0 (r49.Const, r49.Coeffs) hm
                    · refine ⟨_, rfl, ?_⟩
                      refine TL_buildSlice 205 (es := List.map a_i64 [(1 : Int), (-1 : Int)]) el26 z2 rfl rfl rfl rfl rfl rfl rfl rfl rfl ?_
                      refine TL_nil ?_
                      refine TZ_one 3 (by kernel_rfl) rfl ?_
                      refine TL_freeze 165 (by rw [hF]; rfl) rfl rfl rfl ?_
                      refine TL_buildSlice 208 (es := List.map a_Term [r45, p1]) el24 z41 rfl rfl rfl rfl rfl rfl rfl rfl rfl ?_
                      refine TL_nil ?_
                      refine TZ_one 5 (by kernel_rfl) rfl ?_
                      refine TL_callO [(1000, 209)] (c_impl_combined [r45, p1] [(1 : Int), (-1 : Int)] r49 hr49) Try.call70 rfl rfl rfl rfl rfl rfl rfl rfl rfl rfl rfl rfl rfl ?_
                      refine TL_nil ?_
                      refine TZ_one 7 (by kernel_rfl) rfl ?_
                      refine TL_store_box sz41 rfl rfl rfl rfl rfl rfl rfl rfl rfl ?_
                      refine TL_nil ?_
                      refine TZ_done (by kernel_rfl) ?_
                      refine T_keepH [0, 6, 9] [169, 209] rfl rfl rfl rfl (by rw [hF]; rfl) ?_
                      refine T_ren [(169, 31), (209, 29)] rfl rfl rfl (by rw [hF]; rfl) ?_
                      refine T_keepH [0, 6, 9] [29, 31] rfl rfl rfl rfl (by rw [hF]; rfl) ?_
                      exact hj0 (r49.Const, r49.Coeffs) hm
                  · refine ⟨_, rfl, ?_⟩
                    refine TL_buildSlice 203 (es := List.map a_i64 [(1 : Int), (-1 : Int)]) el26 z2 rfl rfl rfl rfl rfl rfl rfl rfl rfl ?_
                    refine TL_nil ?_
                    refine TZ_pure 2 (by kernel_rfl) rfl rfl rfl rfl rfl (op_load_agg ag41 sz41 rfl rfl rfl) ?_
                    refine TZ_one 3 (by kernel_rfl) rfl ?_
                    refine TL_freeze 165 (by rw [hF]; rfl) rfl rfl rfl ?_
                    refine TL_buildSlice 210 (es := List.map a_Term [r45, p1]) el24 z41 rfl rfl rfl rfl rfl rfl rfl rfl rfl ?_
                    refine TL_nil ?_
                    refine TZ_one 5 (by kernel_rfl) rfl ?_
                    refine TL_callO [(1000, 211)] (c_impl_combined [r45, p1] [(1 : Int), (-1 : Int)] r49 hr49) Try.call70 rfl rfl rfl rfl rfl rfl rfl rfl rfl rfl rfl rfl rfl ?_
                    refine TL_nil ?_
                    refine TZ_one 7 (by kernel_rfl) rfl ?_
                    refine TL_store_box sz41 rfl rfl rfl rfl rfl rfl rfl rfl rfl ?_
                    refine TL_nil ?_
                    refine TZ_done (by kernel_rfl) ?_
                    refine T_keepH [0, 6, 9] [169, 211] rfl rfl rfl rfl (by rw [hF]; rfl) ?_
                    refine T_ren [(169, 31), (211, 29)] rfl rfl rfl (by rw [hF]; rfl) ?_
                    refine T_keepH [0, 6, 9] [29, 31] rfl rfl rfl rfl (by rw [hF]; rfl) ?_
                    exact hj0 (r49.Const, r49.Coeffs) hm
              · refine ⟨_, rfl, ?_⟩
                refine TL_pure rfl rfl rfl rfl (op_load_agg ag41 sz41 rfl rfl rfl) ?_
                refine TL_nil ?_
                refine TZ_each [1, 4, 6] (by kernel_rfl) rfl ?_
                refine ⟨?_, ?_, ?_⟩
                · refine ⟨_, rfl, ?_⟩
                  refine TL_callO [(1000, 212)] (c_impl_symbolTerm (9 : Int) r45 hr45) Try.call71 rfl rfl rfl rfl rfl rfl rfl rfl rfl rfl rfl rfl rfl ?_
                  refine TL_nil ?_
                  refine TZ_each [3, 4, 6] (by kernel_rfl) rfl ?_
                  refine ⟨?_, ?_, ?_⟩
                  · refine ⟨_, rfl, ?_⟩
                    refine TL_freeze 212 (by rw [hF]; rfl) rfl rfl rfl ?_
                    refine TL_buildSlice 215 (es := List.map a_Term [r45, p1]) el24 z41 rfl rfl rfl rfl rfl rfl rfl rfl rfl ?_
                    refine TL_nil ?_
                    refine TZ_each [4, 6] (by kernel_rfl) rfl ?_
                    refine ⟨?_, ?_⟩
                    · refine ⟨_, rfl, ?_⟩
                      refine TL_buildSlice 218 (es := List.map a_i64 [(1 : Int), (-1 : Int)]) el26 z2 rfl rfl rfl rfl rfl rfl rfl rfl rfl ?_
                      refine TL_nil ?_
                      refine TZ_each [5, 6] (by kernel_rfl) rfl ?_
                      refine ⟨?_, ?_⟩
                      · refine ⟨_, rfl, ?_⟩
                        refine TL_callO [(1000, 220)] (c_impl_combined [r45, p1] [(1 : Int), (-1 : Int)] r49 hr49) Try.call70 rfl rfl rfl rfl rfl rfl rfl rfl rfl rfl rfl rfl rfl ?_
                        refine TL_nil ?_
                        refine TZ_one 6 (by kernel_rfl) rfl ?_
                        refine TL_alloc 222 z41 rfl rfl rfl rfl rfl rfl rfl ?_
                        refine TL_nil ?_
                        refine TZ_one 7 (by kernel_rfl) rfl ?_
                        refine TL_store_box sz41 rfl rfl rfl rfl rfl rfl rfl rfl rfl ?_
                        refine TL_nil ?_
                        refine TZ_done (by kernel_rfl) ?_
                        refine T_keepH [0, 6, 9] [220, 222] rfl rfl rfl rfl (by rw [hF]; rfl) ?_
                        refine T_ren [(220, 29), (222, 31)] rfl rfl rfl (by rw [hF]; rfl) ?_
                        exact hj0 (r49.Const, r49.Coeffs) hm
                      · refine ⟨_, rfl, ?_⟩
                        refine TL_alloc 221 z41 rfl rfl rfl rfl rfl rfl rfl ?_
                        refine TL_nil ?_
                        refine TZ_one 5 (by kernel_rfl) rfl ?_
                        refine TL_callO [(1000, 223)] (c_impl_combined [r45, p1] [(1 : Int), (-1 : Int)] r49 hr49) Try.call70 rfl rfl rfl rfl rfl rfl rfl rfl rfl rfl rfl rfl rfl ?_
                        refine TL_nil ?_
                        refine TZ_one 7 (by kernel_rfl) rfl ?_
                        refine TL_store_box sz41 rfl rfl rfl rfl rfl rfl rfl rfl rfl ?_
                        refine TL_nil ?_
                        refine TZ_done (by kernel_rfl) ?_
                        refine T_keepH [0, 6, 9] [221, 223] rfl rfl rfl rfl (by rw [hF]; rfl) ?_
                        refine T_ren [(221, 31), (223, 29)] rfl rfl rfl (by rw [hF]; rfl) ?_
                        refine T_keepH [0, 6, 9] [29, 31] rfl rfl rfl rfl (by rw [hF]; rfl) ?_
                        exact hj0 (r49.Const, r49.Coeffs) hm
                    · refine ⟨_, rfl, ?_⟩
                      refine TL_alloc 219 z41 rfl rfl rfl rfl rfl rfl rfl ?_
                      refine TL_nil ?_
                      refine TZ_one 4 (by kernel_rfl) rfl ?_
                      refine TL_buildSlice 224 (es := List.map a_i64 [(1 : Int), (-1 : Int)]) el26 z2 rfl rfl rfl rfl rfl rfl rfl rfl rfl ?_
                      refine TL_nil ?_
                      refine TZ_one 5 (by kernel_rfl) rfl ?_
                      refine TL_callO [(1000, 225)] (c_impl_combined [r45, p1] [(1 : Int), (-1 : Int)] r49 hr49) Try.call70 rfl rfl rfl rfl rfl rfl rfl rfl rfl rfl rfl rfl rfl ?_
                      refine TL_nil ?_
                      refine TZ_one 7 (by kernel_rfl) rfl ?_
                      refine TL_store_box sz41 rfl rfl rfl rfl rfl rfl rfl rfl rfl ?_
                      refine TL_nil ?_
                      refine TZ_done (by kernel_rfl) ?_
                      refine T_keepH [0, 6, 9] [219, 225] rfl rfl rfl rfl (by rw [hF]; rfl) ?_
                      refine T_ren [(219, 31), (225, 29)] rfl rfl rfl (by rw [hF]; rfl) ?_
                      refine T_keepH [0, 6, 9] [29, 31] rfl rfl rfl rfl (by rw [hF]; rfl) ?_
                      exact hj0 (r49.Const, r49.Coeffs) hm
                  · refine ⟨_, rfl, ?_⟩
                    refine TL_buildSlice 216 (es := List.map a_i64 [(1 : Int), (-1 : Int)]) el26 z2 rfl rfl rfl rfl rfl rfl rfl rfl rfl ?_
                    refine TL_nil ?_
                    refine TZ_each [3, 6] (by kernel_rfl) rfl ?_
                    refine ⟨?_, ?_⟩
                    · refine ⟨_, rfl, ?_⟩
                      refine TL_freeze 212 (by rw [hF]; rfl) rfl rfl rfl ?_
                      refine TL_buildSlice 226 (es := List.map a_Term [r45, p1]) el24 z41 rfl rfl rfl rfl rfl rfl rfl rfl rfl ?_
                      refine TL_nil ?_
                      refine TZ_each [5, 6] (by kernel_rfl) rfl ?_
                      refine ⟨?_, ?_⟩
                      · refine ⟨_, rfl, ?_⟩
                        refine TL_callO [(1000, 228)] (c_impl_combined [r45, p1] [(1 : Int), (-1 : Int)] r49 hr49) Try.call70 rfl rfl rfl rfl rfl rfl rfl rfl rfl rfl rfl rfl rfl ?_
                        refine TL_nil ?_
                        refine TZ_one 6 (by kernel_rfl) rfl ?_
                        refine TL_alloc 230 z41 rfl rfl rfl rfl rfl rfl rfl ?_
                        refine TL_nil ?_
                        refine TZ_one 7 (by kernel_rfl) rfl ?_
                        refine TL_store_box sz41 rfl rfl rfl rfl rfl rfl rfl rfl rfl ?_
                        refine TL_nil ?_
                        refine TZ_done (by kernel_rfl) ?_
                        refine T_keepH [0, 6, 9] [228, 230] rfl rfl rfl rfl (by rw [hF]; rfl) ?_
                        refine T_ren [(228, 29), (230, 31)] rfl rfl rfl (by rw [hF]; rfl) ?_
                        exact hj0 (r49.Const, r49.Coeffs) hm
                      · refine ⟨_, rfl, ?_⟩
                        refine TL_alloc 229 z41 rfl rfl rfl rfl rfl rfl rfl ?_
                        refine TL_nil ?_
                        refine TZ_one 5 (by kernel_rfl) rfl ?_
                        refine TL_callO [(1000, 231)] (c_impl_combined [r45, p1] [(1 : Int), (-1 : Int)] r49 hr49) Try.call70 rfl rfl rfl rfl rfl rfl rfl rfl rfl rfl rfl rfl rfl ?_
                        refine TL_nil ?_
                        refine TZ_one 7 (by kernel_rfl) rfl ?_
                        refine TL_store_box sz41 rfl rfl rfl rfl rfl rfl rfl rfl rfl ?_
                        refine TL_nil ?_
                        refine TZ_done (by kernel_rfl) ?_
                        refine T_keepH [0, 6, 9] [229, 231] rfl rfl rfl rfl (by rw [hF]; rfl) ?_
                        refine T_ren [(229, 31), (231, 29)] rfl rfl rfl (by rw [hF]; rfl) ?_
                        refine T_keepH [0, 6, 9] [29, 31] rfl rfl rfl rfl (by rw [hF]; rfl) ?_
                        exact hj0 (r49.Const, r49.Coeffs) hm
                    · refine ⟨_, rfl, ?_⟩
                      refine TL_alloc 227 z41 rfl rfl rfl rfl rfl rfl rfl ?_
                      refine TL_nil ?_
                      refine TZ_one 3 (by kernel_rfl) rfl ?_
                      refine TL_freeze 212 (by rw [hF]; rfl) rfl rfl rfl ?_
                      refine TL_buildSlice 232 (es := List.map a_Term [r45, p1]) el24 z41 rfl rfl rfl rfl rfl rfl rfl rfl rfl ?_
                      refine TL_nil ?_
                      refine TZ_one 5 (by kernel_rfl) rfl ?_
                      refine TL_callO [(1000, 233)] (c_impl_combined [r45, p1] [(1 : Int), (-1 : Int)] r49 hr49) Try.call70 rfl rfl rfl rfl rfl rfl rfl rfl rfl rfl rfl rfl rfl ?_
                      refine TL_nil ?_
                      refine TZ_one 7 (by kernel_rfl) rfl ?_
                      refine TL_store_box sz41 rfl rfl rfl rfl rfl rfl rfl rfl rfl ?_
                      refine TL_nil ?_
                      refine TZ_done (by kernel_rfl) ?_
                      refine T_keepH [0, 6, 9] [227, 233] rfl rfl rfl rfl (by rw [hF]; rfl) ?_
                      refine T_ren [(227, 31), (233, 29)] rfl rfl rfl (by rw [hF]; rfl) ?_
                      refine T_keepH [0, 6, 9] [29, 31] rfl rfl rfl rfl (by rw [hF]; rfl) ?_
                      exact hj0 (r49.Const, r49.Coeffs) hm
                  · refine ⟨_, rfl, ?_⟩
                    refine TL_alloc 217 z41 rfl rfl rfl rfl rfl rfl rfl ?_
                    refine TL_nil ?_
                    refine TZ_each [3, 4] (by kernel_rfl) rfl ?_
                    refine ⟨?_, ?_⟩
                    · refine ⟨_, rfl, ?_⟩
                      refine TL_freeze 212 (by rw [hF]; rfl) rfl rfl rfl ?_
                      refine TL_buildSlice 234 (es := List.map a_Term [r45, p1]) el24 z41 rfl rfl rfl rfl rfl rfl rfl rfl rfl ?_
                      refine TL_nil ?_
                      refine TZ_one 4 (by kernel_rfl) rfl ?_
                      refine TL_buildSlice 236 (es := List.map a_i64 [(1 : Int), (-1 : Int)]) el26 z2 rfl rfl rfl rfl rfl rfl rfl rfl rfl ?_
                      refine TL_nil ?_
                      refine TZ_one 5 (by kernel_rfl) rfl ?_
                      refine TL_callO [(1000, 237)] (c_impl_combined [r45, p1] [(1 : Int), (-1 : Int)] r49 hr49) Try.call70 rfl rfl rfl rfl rfl rfl rfl rfl rfl rfl rfl rfl rfl ?_
                      refine TL_nil ?_
                      refine TZ_one 7 (by kernel_rfl) rfl ?_
                      refine TL_store_box sz41 rfl rfl rfl rfl rfl rfl rfl rfl rfl ?_
                      refine TL_nil ?_
                      refine TZ_done (by kernel_rfl) ?_
                      refine T_keepH [0, 6, 9] [217, 237] rfl rfl rfl rfl (by rw [hF]; rfl) ?_
                      refine T_ren [(217, 31), (237, 29)] rfl rfl rfl (by rw [hF]; rfl) ?_
                      refine T_keepH [0, 6, 9] [29, 31] rfl rfl rfl rfl (by rw [hF]; rfl) ?_
                      exact hj0 (r49.Const, r49.Coeffs) hm
                    · refine ⟨_, rfl, ?_⟩
                      refine TL_buildSlice 235 (es := List.map a_i64 [(1 : Int), (-1 : Int)]) el26 z2 rfl rfl rfl rfl rfl rfl rfl rfl rfl ?_
                      refine TL_nil ?_
                      refine TZ_one 3 (by kernel_rfl) rfl ?_
                      refine TL_freeze 212 (by rw [hF]; rfl) rfl rfl rfl ?_
                      refine TL_buildSlice 238 (es := List.map a_Term [r45, p1]) el24 z41 rfl rfl rfl rfl rfl rfl rfl rfl rfl ?_
                      refine TL_nil ?_
                      refine TZ_one 5 (by kernel_rfl) rfl ?_
                      refine TL_callO [(1000, 239)] (c_impl_combined [r45, p1] [(1 : Int), (-1 : Int)] r49 hr49) Try.call70 rfl rfl rfl rfl rfl rfl rfl rfl rfl rfl rfl rfl rfl ?_
                      refine TL_nil ?_
                      refine TZ_one 7 (by kernel_rfl) rfl ?_
                      refine TL_store_box sz41 rfl rfl rfl rfl rfl rfl rfl rfl rfl ?_
                      refine TL_nil ?_
                      refine TZ_done (by kernel_rfl) ?_
                      refine T_keepH [0, 6, 9] [217, 239] rfl rfl rfl rfl (by rw [hF]; rfl) ?_
                      refine T_ren [(217, 31), (239, 29)] rfl rfl rfl (by rw [hF]; rfl) ?_
                      refine T_keepH [0, 6, 9] [29, 31] rfl rfl rfl rfl (by rw [hF]; rfl) ?_
                      exact hj0 (r49.Const, r49.Coeffs) hm
                · refine ⟨_, rfl, ?_⟩
                  refine TL_buildSlice 213 (es := List.map a_i64 [(1 : Int), (-1 : Int)]) el26 z2 rfl rfl rfl rfl rfl rfl rfl rfl rfl ?_
                  refine TL_nil ?_
                  refine TZ_each [1, 6] (by kernel_rfl) rfl ?_
                  refine ⟨?_, ?_⟩
                  · refine ⟨_, rfl, ?_⟩
                    refine TL_callO [(1000, 240)] (c_impl_symbolTerm (9 : Int) r45 hr45) Try.call71 rfl rfl rfl rfl rfl rfl rfl rfl rfl rfl rfl rfl rfl ?_
                    refine TL_nil ?_
                    refine TZ_each [3, 6] (by kernel_rfl) rfl ?_
                    refine ⟨?_, ?_⟩
                    · refine ⟨_, rfl, ?_⟩
                      refine TL_freeze 240 (by rw [hF]; rfl) rfl rfl rfl ?_
                      refine TL_buildSlice 242 (es := List.map a_Term [r45, p1]) el24 z41 rfl rfl rfl rfl rfl rfl rfl rfl rfl ?_
                      refine TL_nil ?_
                      refine TZ_each [5, 6] (by kernel_rfl) rfl ?_
                      refine ⟨?_, ?_⟩
                      · refine ⟨_, rfl, ?_⟩
                        refine TL_callO [(1000, 244)] (c_impl_combined [r45, p1] [(1 : Int), (-1 : Int)] r49 hr49) Try.call70 rfl rfl rfl rfl rfl rfl rfl rfl rfl rfl rfl rfl rfl ?_
                        refine TL_nil ?_
                        refine TZ_one 6 (by kernel_rfl) rfl ?_
                        refine TL_alloc 246 z41 rfl rfl rfl rfl rfl rfl rfl ?_
                        refine TL_nil ?_
                        refine TZ_one 7 (by kernel_rfl) rfl ?_
                        refine TL_store_box sz41 rfl rfl rfl rfl rfl rfl rfl rfl rfl ?_
                        refine TL_nil ?_
                        refine TZ_done (by kernel_rfl) ?_
                        refine T_keepH [0, 6, 9] [244, 246] rfl rfl rfl rfl (by rw [hF]; rfl) ?_
                        refine T_ren [(244, 29), (246, 31)] rfl rfl rfl (by rw [hF]; rfl) ?_
                        exact hj0 (r49.Const, r49.Coeffs) hm
                      · refine ⟨_, rfl, ?_⟩
                        refine TL_alloc 245 z41 rfl rfl rfl rfl rfl rfl rfl ?_
                        refine TL_nil ?_
                        refine TZ_one 5 (by kernel_rfl) rfl ?_
                        refine TL_callO [(1000, 247)] (c_impl_combined [r45, p1] [(1 : Int), (-1 : Int)] r49 hr49) Try.call70 rfl rfl rfl rfl rfl rfl rfl rfl rfl rfl rfl rfl rfl ?_
                        refine TL_nil ?_
                        refine TZ_one 7 (by kernel_rfl) rfl ?_
                        refine TL_store_box sz41 rfl rfl rfl rfl rfl rfl rfl rfl rfl ?_
                        refine TL_nil ?_
                        refine TZ_done (by kernel_rfl) ?_
                        refine T_keepH [0, 6, 9] [245, 247] rfl rfl rfl rfl (by rw [hF]; rfl) ?_
                        refine T_ren [(245, 31), (247, 29)] rfl rfl rfl (by rw [hF]; rfl) ?_
                        refine T_keepH [0, 6, 9] [29, 31] rfl rfl rfl rfl (by rw [hF]; rfl) ?_
                        exact hj0 (r49.Const, r49.Coeffs) hm
                    · refine ⟨_, rfl, ?_⟩
                      refine TL_alloc 243 z41 rfl rfl rfl rfl rfl rfl rfl ?_
                      refine TL_nil ?_
                      refine TZ_one 3 (by kernel_rfl) rfl ?_
                      refine TL_freeze 240 (by rw [hF]; rfl) rfl rfl rfl ?_
                      refine TL_buildSlice 248 (es := List.map a_Term [r45, p1]) el24 z41 rfl rfl rfl rfl rfl rfl rfl rfl rfl ?_
                      refine TL_nil ?_
                      refine TZ_one 5 (by kernel_rfl) rfl ?_
                      refine TL_callO [(1000, 249)] (c_impl_combined [r45, p1] [(1 : Int), (-1 : Int)] r49 hr49) Try.call70 rfl rfl rfl rfl rfl rfl rfl rfl rfl rfl rfl rfl rfl ?_
                      refine TL_nil ?_
                      refine TZ_one 7 (by kernel_rfl) rfl ?_
                      refine TL_store_box sz41 rfl rfl rfl rfl rfl rfl rfl rfl rfl ?_
                      refine TL_nil ?_
                      refine TZ_done (by kernel_rfl) ?_
                      refine T_keepH [0, 6, 9] [243, 249] rfl rfl rfl rfl (by rw [hF]; rfl) ?_
                      refine T_ren [(243, 31), (249, 29)] rfl rfl rfl (by rw [hF]; rfl) ?_
                      refine T_keepH [0, 6, 9] [29, 31] rfl rfl rfl rfl (by rw [hF]; rfl) ?_
                      exact hj0 (r49.Const, r49.Coeffs) hm
                  · refine ⟨_, rfl, ?_⟩
                    refine TL_alloc 241 z41 rfl rfl rfl rfl rfl rfl rfl ?_
                    refine TL_nil ?_
                    refine TZ_one 1 (by kernel_rfl) rfl ?_
                    refine TL_callO [(1000, 250)] (c_impl_symbolTerm (9 : Int) r45 hr45) Try.call71 rfl rfl rfl rfl rfl rfl rfl rfl rfl rfl rfl rfl rfl ?_
                    refine TL_nil ?_
                    refine TZ_one 3 (by kernel_rfl) rfl ?_
                    refine TL_freeze 250 (by rw [hF]; rfl) rfl rfl rfl ?_
                    refine TL_buildSlice 251 (es := List.map a_Term [r45, p1]) el24 z41 rfl rfl rfl rfl rfl rfl rfl rfl rfl ?_
                    refine TL_nil ?_
                    refine TZ_one 5 (by kernel_rfl) rfl ?_
                    refine TL_callO [(1000, 252)] (c_impl_combined [r45, p1] [(1 : Int), (-1 : Int)] r49 hr49) Try.call70 rfl rfl rfl rfl rfl rfl rfl rfl rfl rfl rfl rfl rfl ?_
                    refine TL_nil ?_
                    refine TZ_one 7 (by kernel_rfl) rfl ?_
                    refine TL_store_box sz41 rfl rfl rfl rfl rfl rfl rfl rfl rfl ?_
                    refine TL_nil ?_
                    refine TZ_done (by kernel_rfl) ?_
                    refine T_keepH [0, 6, 9] [241, 252] rfl rfl rfl rfl (by rw [hF]; rfl) ?_
                    refine T_ren [(241, 31), (252, 29)] rfl rfl rfl (by rw [hF]; rfl) ?_
                    refine T_keepH [0, 6, 9] [29, 31] rfl rfl rfl rfl (by rw [hF]; rfl) ?_
                    exact hj0 (r49.Const, r49.Coeffs) hm
                · refine ⟨_, rfl, ?_⟩
                  refine TL_alloc 214 z41 rfl rfl rfl rfl rfl rfl rfl ?_
                  refine TL_nil ?_
                  refine TZ_each [1, 4] (by kernel_rfl) rfl ?_
                  refine ⟨?_, ?_⟩
                  · refine ⟨_, rfl, ?_⟩
                    refine TL_callO [(1000, 253)] (c_impl_symbolTerm (9 : Int) r45 hr45) Try.call71 rfl rfl rfl rfl rfl rfl rfl rfl rfl rfl rfl rfl rfl ?_
                    refine TL_nil ?_
                    refine TZ_each [3, 4] (by kernel_rfl) rfl ?_
                    refine ⟨?_, ?_⟩
                    · refine ⟨_, rfl, ?_⟩
                      refine TL_freeze 253 (by rw [hF]; rfl) rfl rfl rfl ?_
                      refine TL_buildSlice 255 (es := List.map a_Term [r45, p1]) el24 z41 rfl rfl rfl rfl rfl rfl rfl rfl rfl ?_
                      refine TL_nil ?_
                      refine TZ_one 4 (by kernel_rfl) rfl ?_
                      refine TL_buildSlice 257 (es := List.map a_i64 [(1 : Int), (-1 : Int)]) el26 z2 rfl rfl rfl rfl rfl rfl rfl rfl rfl ?_
                      refine TL_nil ?_
                      refine TZ_one 5 (by kernel_rfl) rfl ?_
                      refine TL_callO [(1000, 258)] (c_impl_combined [r45, p1] [(1 : Int), (-1 : Int)] r49 hr49) Try.call70 rfl rfl rfl rfl rfl rfl rfl rfl rfl rfl rfl rfl rfl ?_
                      refine TL_nil ?_
                      refine TZ_one 7 (by kernel_rfl) rfl ?_
                      refine TL_store_box sz41 rfl rfl rfl rfl rfl rfl rfl rfl rfl ?_
                      refine TL_nil ?_
                      refine TZ_done (by kernel_rfl) ?_
                      refine T_keepH [0, 6, 9] [214, 258] rfl rfl rfl rfl (by rw [hF]; rfl) ?_
                      refine T_ren [(214, 31), (258, 29)] rfl rfl rfl (by rw [hF]; rfl) ?_
                      refine T_keepH [0, 6, 9] [29, 31] rfl rfl rfl rfl (by rw [hF]; rfl) ?_
                      exact hj0 (r49.Const, r49.Coeffs) hm
                    · refine ⟨_, rfl, ?_⟩
                      refine TL_buildSlice 256 (es := List.map a_i64 [(1 : Int), (-1 : Int)]) el26 z2 rfl rfl rfl rfl rfl rfl rfl rfl rfl ?_
                      refine TL_nil ?_
                      refine TZ_one 3 (by kernel_rfl) rfl ?_
                      refine TL_freeze 253 (by rw [hF]; rfl) rfl rfl rfl ?_
                      refine TL_buildSlice 259 (es := List.map a_Term [r45, p1]) el24 z41 rfl rfl rfl rfl rfl rfl rfl rfl rfl ?_
                      refine TL_nil ?_
                      refine TZ_one 5 (by kernel_rfl) rfl ?_
                      refine TL_callO [(1000, 260)] (c_impl_combined [r45, p1] [(1 : Int), (-1 : Int)] r49 hr49) Try.call70 rfl rfl rfl rfl rfl rfl rfl rfl rfl rfl rfl rfl rfl ?_
                      refine TL_nil ?_
                      refine TZ_one 7 (by kernel_rfl) rfl ?_
                      refine TL_store_box sz41 rfl rfl rfl rfl rfl rfl rfl rfl rfl ?_
                      refine TL_nil ?_
                      refine TZ_done (by kernel_rfl) ?_
                      refine T_keepH [0, 6, 9] [214, 260] rfl rfl rfl rfl (by rw [hF]; rfl) ?_
                      refine T_ren [(214, 31), (260, 29)] rfl rfl rfl (by rw [hF]; rfl) ?_
                      refine T_keepH [0, 6, 9] [29, 31] rfl rfl rfl rfl (by rw [hF]; rfl) ?_
                      exact hj0 (r49.Const, r49.Coeffs) hm
                  · refine ⟨_, rfl, ?_⟩
                    refine TL_buildSlice 254 (es := List.map a_i64 [(1 : Int), (-1 : Int)]) el26 z2 rfl rfl rfl rfl rfl rfl rfl rfl rfl ?_
                    refine TL_nil ?_
                    refine TZ_one 1 (by kernel_rfl) rfl ?_
                    refine TL_callO [(1000, 261)] (c_impl_symbolTerm (9 : Int) r45 hr45) Try.call71 rfl rfl rfl rfl rfl rfl rfl rfl rfl rfl rfl rfl rfl ?_
                    refine TL_nil ?_
                    refine TZ_one 3 (by kernel_rfl) rfl ?_
                    refine TL_freeze 261 (by rw [hF]; rfl) rfl rfl rfl ?_
                    refine TL_buildSlice 262 (es := List.map a_Term [r45, p1]) el24 z41 rfl rfl rfl rfl rfl rfl rfl rfl rfl ?_
                    refine TL_nil ?_
                    refine TZ_one 5 (by kernel_rfl) rfl ?_
                    refine TL_callO [(1000, 263)] (c_impl_combined [r45, p1] [(1 : Int), (-1 : Int)] r49 hr49) Try.call70 rfl rfl rfl rfl rfl rfl rfl rfl rfl rfl rfl rfl rfl ?_
                    refine TL_nil ?_
                    refine TZ_one 7 (by kernel_rfl) rfl ?_
                    refine TL_store_box sz41 rfl rfl rfl rfl rfl rfl rfl rfl rfl ?_
                    refine TL_nil ?_
                    refine TZ_done (by kernel_rfl) ?_
                    refine T_keepH [0, 6, 9] [214, 263] rfl rfl rfl rfl (by rw [hF]; rfl) ?_
                    refine T_ren [(214, 31), (263, 29)] rfl rfl rfl (by rw [hF]; rfl) ?_
                    refine T_keepH [0, 6, 9] [29, 31] rfl rfl rfl rfl (by rw [hF]; rfl) ?_
                    exact hj0 (r49.Const, r49.Coeffs) hm
              · refine ⟨_, rfl, ?_⟩
                refine TL_buildSlice 166 (es := List.map a_i64 [(1 : Int), (-1 : Int)]) el26 z2 rfl rfl rfl rfl rfl rfl rfl rfl rfl ?_
                refine TL_nil ?_
                refine TZ_pure 2 (by kernel_rfl) rfl rfl rfl rfl rfl (op_load_agg ag41 sz41 rfl rfl rfl) ?_
                refine TZ_each [1, 6] (by kernel_rfl) rfl ?_
                refine ⟨?_, ?_⟩
                · refine ⟨_, rfl, ?_⟩
                  refine TL_callO [(1000, 264)] (c_impl_symbolTerm (9 : Int) r45 hr45) Try.call71 rfl rfl rfl rfl rfl rfl rfl rfl rfl rfl rfl rfl rfl ?_
                  refine TL_nil ?_
                  refine TZ_each [3, 6] (by kernel_rfl) rfl ?_
                  refine ⟨?_, ?_⟩
                  · refine ⟨_, rfl, ?_⟩
                    refine TL_freeze 264 (by rw [hF]; rfl) rfl rfl rfl ?_
                    refine TL_buildSlice 266 (es := List.map a_Term [r45, p1]) el24 z41 rfl rfl rfl rfl rfl rfl rfl rfl rfl ?_
                    refine TL_nil ?_
                    refine TZ_each [5, 6] (by kernel_rfl) rfl ?_
                    refine ⟨?_, ?_⟩
                    · refine ⟨_, rfl, ?_⟩
                      refine TL_callO [(1000, 268)] (c_impl_combined [r45, p1] [(1 : Int), (-1 : Int)] r49 hr49) Try.call70 rfl rfl rfl rfl rfl rfl rfl rfl rfl rfl rfl rfl rfl ?_
                      refine TL_nil ?_
                      refine TZ_one 6 (by kernel_rfl) rfl ?_
                      refine TL_alloc 270 z41 rfl rfl rfl rfl rfl rfl rfl ?_
                      refine TL_nil ?_
                      refine TZ_one 7 (by kernel_rfl) rfl ?_
                      refine TL_store_box sz41 rfl rfl rfl rfl rfl rfl rfl rfl rfl ?_
                      refine TL_nil ?_
                      refine TZ_done (by kernel_rfl) ?_
                      refine T_keepH [0, 6, 9] [268, 270] rfl rfl rfl rfl (by rw [hF]; rfl) ?_
                      refine T_ren [(268, 29), (270, 31)] rfl rfl rfl (by rw [hF]; rfl) ?_
                      exact hj0 (r49.Const, r49.Coeffs) hm
                    · refine ⟨_, rfl, ?_⟩
                      refine TL_alloc 269 z41 rfl rfl rfl rfl rfl rfl rfl ?_
                      refine TL_nil ?_
                      refine TZ_one 5 (by kernel_rfl) rfl ?_
                      refine TL_callO [(1000, 271)] (c_impl_combined [r45, p1] [(1 : Int), (-1 : Int)] r49 hr49) Try.call70 rfl rfl rfl rfl rfl rfl rfl rfl rfl rfl rfl rfl rfl ?_
                      refine TL_nil ?_
                      refine TZ_one 7 (by kernel_rfl) rfl ?_
                      refine TL_store_box sz41 rfl rfl rfl rfl rfl rfl rfl rfl rfl ?_
                      refine TL_nil ?_
                      refine TZ_done (by kernel_rfl) ?_
                      refine T_keepH [0, 6, 9] [269, 271] rfl rfl rfl rfl (by rw [hF]; rfl) ?_
                      refine T_ren [(269, 31), (271, 29)] rfl rfl rfl (by rw [hF]; rfl) ?_
                      refine T_keepH [0, 6, 9] [29, 31] rfl rfl rfl rfl (by rw [hF]; rfl) ?_
                      exact hj0 (r49.Const, r49.Coeffs) hm
                  · refine ⟨_, rfl, ?_⟩
                    refine TL_alloc 267 z41 rfl rfl rfl rfl rfl rfl rfl ?_
                    refine TL_nil ?_
                    refine TZ_one 3 (by kernel_rfl) rfl ?_
                    refine TL_freeze 264 (by rw [hF]; rfl) rfl rfl rfl ?_
                    refine TL_buildSlice 272 (es := List.map a_Term [r45, p1]) el24 z41 rfl rfl rfl rfl rfl rfl rfl rfl rfl ?_
                    refine TL_nil ?_
                    refine TZ_one 5 (by kernel_rfl) rfl ?_
                    refine TL_callO [(1000, 273)] (c_impl_combined [r45, p1] [(1 : Int), (-1 : Int)] r49 hr49) Try.call70 rfl rfl rfl rfl rfl rfl rfl rfl rfl rfl rfl rfl rfl ?_
                    refine TL_nil ?_
                    refine TZ_one 7 (by kernel_rfl) rfl ?_
                    refine TL_store_box sz41 rfl rfl rfl rfl rfl rfl rfl rfl rfl ?_
                    refine TL_nil ?_
                    refine TZ_done (by kernel_rfl) ?_
                    refine T_keepH [0, 6, 9] [267, 273] rfl rfl rfl rfl (by rw [hF]; rfl) ?_
                    refine T_ren [(267, 31), (273, 29)] rfl rfl rfl (by rw [hF]; rfl) ?_
                    refine T_keepH [0, 6, 9] [29, 31] rfl rfl rfl rfl (by rw [hF]; rfl) ?_
                    exact hj0 (r49.Const, r49.Coeffs) hm
                · refine ⟨_, rfl, ?_⟩
                  refine TL_alloc 265 z41 rfl rfl rfl rfl rfl rfl rfl ?_
                  refine TL_nil ?_
                  refine TZ_one 1 (by kernel_rfl) rfl ?_
                  refine TL_callO [(1000, 274)] (c_impl_symbolTerm (9 : Int) r45 hr45) Try.call71 rfl rfl rfl rfl rfl rfl rfl rfl rfl rfl rfl rfl rfl ?_
                  refine TL_nil ?_
                  refine TZ_one 3 (by kernel_rfl) rfl ?_
                  refine TL_freeze 274 (by rw [hF]; rfl) rfl rfl rfl ?_
                  refine TL_buildSlice 275 (es := List.map a_Term [r45, p1]) el24 z41 rfl rfl rfl rfl rfl rfl rfl rfl rfl ?_
                  refine TL_nil ?_
                  refine TZ_one 5 (by kernel_rfl) rfl ?_
                  refine TL_callO [(1000, 276)] (c_impl_combined [r45, p1] [(1 : Int), (-1 : Int)] r49 hr49) Try.call70 rfl rfl rfl rfl rfl rfl rfl rfl rfl rfl rfl rfl rfl ?_
                  refine TL_nil ?_
                  refine TZ_one 7 (by kernel_rfl) rfl ?_
                  refine TL_store_box sz41 rfl rfl rfl rfl rfl rfl rfl rfl rfl ?_
                  refine TL_nil ?_
                  refine TZ_done (by kernel_rfl) ?_
                  refine T_keepH [0, 6, 9] [265, 276] rfl rfl rfl rfl (by rw [hF]; rfl) ?_
                  refine T_ren [(265, 31), (276, 29)] rfl rfl rfl (by rw [hF]; rfl) ?_
                  refine T_keepH [0, 6, 9] [29, 31] rfl rfl rfl rfl (by rw [hF]; rfl) ?_
                  exact hj0 (r49.Const, r49.Coeffs) hm
              · refine ⟨_, rfl, ?_⟩
                refine TL_alloc 167 z41 rfl rfl rfl rfl rfl rfl rfl ?_
                refine TL_nil ?_
                refine TZ_each [1, 2, 4] (by kernel_rfl) rfl ?_
                refine ⟨?_, ?_, ?_⟩
                · refine ⟨_, rfl, ?_⟩
                  refine TL_callO [(1000, 277)] (c_impl_symbolTerm (9 : Int) r45 hr45) Try.call71 rfl rfl rfl rfl rfl rfl rfl rfl rfl rfl rfl rfl rfl ?_
                  refine TL_nil ?_
                  refine TZ_each [2, 4] (by kernel_rfl) rfl ?_
                  refine ⟨?_, ?_⟩
                  · refine ⟨_, rfl, ?_⟩
                    refine TL_pure rfl rfl rfl rfl (op_load_agg ag41 sz41 rfl rfl rfl) ?_
                    refine TL_nil ?_
                    refine TZ_each [3, 4] (by kernel_rfl) rfl ?_
                    refine ⟨?_, ?_⟩
                    · refine ⟨_, rfl, ?_⟩
                      refine TL_freeze 277 (by rw [hF]; rfl) rfl rfl rfl ?_
                      refine TL_buildSlice 280 (es := List.map a_Term [r45, p1]) el24 z41 rfl rfl rfl rfl rfl rfl rfl rfl rfl ?_
                      refine TL_nil ?_
                      refine TZ_one 4 (by kernel_rfl) rfl ?_
                      refine TL_buildSlice 282 (es := List.map a_i64 [(1 : Int), (-1 : Int)]) el26 z2 rfl rfl rfl rfl rfl rfl rfl rfl rfl ?_
                      refine TL_nil ?_
                      refine TZ_one 5 (by kernel_rfl) rfl ?_
                      refine TL_callO [(1000, 283)] (c_impl_combined [r45, p1] [(1 : Int), (-1 : Int)] r49 hr49) Try.call70 rfl rfl rfl rfl rfl rfl rfl rfl rfl rfl rfl rfl rfl ?_
                      refine TL_nil ?_
                      refine TZ_one 7 (by kernel_rfl) rfl ?_
                      refine TL_store_box sz41 rfl rfl rfl rfl rfl rfl rfl rfl rfl ?_
                      refine TL_nil ?_
                      refine TZ_done (by kernel_rfl) ?_
                      refine T_keepH [0, 6, 9] [167, 283] rfl rfl rfl rfl (by rw [hF]; rfl) ?_
                      refine T_ren [(167, 31), (283, 29)] rfl rfl rfl (by rw [hF]; rfl) ?_
                      refine T_keepH [0, 6, 9] [29, 31] rfl rfl rfl rfl (by rw [hF]; rfl) ?_
                      exact hj0 (r49.Const, r49.Coeffs) hm
                    · refine ⟨_, rfl, ?_⟩
                      refine TL_buildSlice 281 (es := List.map a_i64 [(1 : Int), (-1 : Int)]) el26 z2 rfl rfl rfl rfl rfl rfl rfl rfl rfl ?_
                      refine TL_nil ?_
                      refine TZ_one 3 (by kernel_rfl) rfl ?_
                      refine TL_freeze 277 (by rw [hF]; rfl) rfl rfl rfl ?_
                      refine TL_buildSlice 284 (es := List.map a_Term [r45, p1]) el24 z41 rfl rfl rfl rfl rfl rfl rfl rfl rfl ?_
                      refine TL_nil ?_
                      refine TZ_one 5 (by kernel_rfl) rfl ?_
                      refine TL_callO [(1000, 285)] (c_impl_combined [r45, p1] [(1 : Int), (-1 : Int)] r49 hr49) Try.call70 rfl rfl rfl rfl rfl rfl rfl rfl rfl rfl rfl rfl rfl ?_
                      refine TL_nil ?_
                      refine TZ_one 7 (by kernel_rfl) rfl ?_
                      refine TL_store_box sz41 rfl rfl rfl rfl rfl rfl rfl rfl rfl ?_
                      refine TL_nil ?_
                      refine TZ_done (by kernel_rfl) ?_
                      refine T_keepH [0, 6, 9] [167, 285] rfl rfl rfl rfl (by rw [hF]; rfl) ?_
                      refine T_ren [(167, 31), (285, 29)] rfl rfl rfl (by rw [hF]; rfl) ?_
                      refine T_keepH [0, 6, 9] [29, 31] rfl rfl rfl rfl (by rw [hF]; rfl) ?_
                      exact hj0 (r49.Const, r49.Coeffs) hm
                  · refine ⟨_, rfl, ?_⟩
                    refine TL_buildSlice 279 (es := List.map a_i64 [(1 : Int), (-1 : Int)]) el26 z2 rfl rfl rfl rfl rfl rfl rfl rfl rfl ?_
                    refine TL_nil ?_
                    refine TZ_pure 2 (by kernel_rfl) rfl rfl rfl rfl rfl (op_load_agg ag41 sz41 rfl rfl rfl) ?_
                    refine TZ_one 3 (by kernel_rfl) rfl ?_
                    refine TL_freeze 277 (by rw [hF]; rfl) rfl rfl rfl ?_
                    refine TL_buildSlice 286 (es := List.map a_Term [r45, p1]) el24 z41 rfl rfl rfl rfl rfl rfl rfl rfl rfl ?_
                    refine TL_nil ?_
                    refine TZ_one 5 (by kernel_rfl) rfl ?_
                    refine TL_callO [(1000, 287)] (c_impl_combined [r45, p1] [(1 : Int), (-1 : Int)] r49 hr49) Try.call70 rfl rfl rfl rfl rfl rfl rfl rfl rfl rfl rfl rfl rfl ?_
                    refine TL_nil ?_
                    refine TZ_one 7 (by kernel_rfl) rfl ?_
                    refine TL_store_box sz41 rfl rfl rfl rfl rfl rfl rfl rfl rfl ?_
                    refine TL_nil ?_
                    refine TZ_done (by kernel_rfl) ?_
                    refine T_keepH [0, 6, 9] [167, 287] rfl rfl rfl rfl (by rw [hF]; rfl) ?_
                    refine T_ren [(167, 31), (287, 29)] rfl rfl rfl (by rw [hF]; rfl) ?_
                    refine T_keepH [0, 6, 9] [29, 31] rfl rfl rfl rfl (by rw [hF]; rfl) ?_
                    exact hj0 (r49.Const, r49.Coeffs) hm
                · refine ⟨_, rfl, ?_⟩
                  refine TL_pure rfl rfl rfl rfl (op_load_agg ag41 sz41 rfl rfl rfl) ?_
                  refine TL_nil ?_
                  refine TZ_each [1, 4] (by kernel_rfl) rfl ?_
                  refine ⟨?_, ?_⟩
                  · refine ⟨_, rfl, ?_⟩
                    refine TL_callO [(1000, 288)] (c_impl_symbolTerm (9 : Int) r45 hr45) Try.call71 rfl rfl rfl rfl rfl rfl rfl rfl rfl rfl rfl rfl rfl ?_
                    refine TL_nil ?_
                    refine TZ_each [3, 4] (by kernel_rfl) rfl ?_
                    refine ⟨?_, ?_⟩
                    · refine ⟨_, rfl, ?_⟩
                      refine TL_freeze 288 (by rw [hF]; rfl) rfl rfl rfl ?_
                      refine TL_buildSlice 290 (es := List.map a_Term [r45, p1]) el24 z41 rfl rfl rfl rfl rfl rfl rfl rfl rfl ?_
                      refine TL_nil ?_
                      refine TZ_one 4 (by kernel_rfl) rfl ?_
                      refine TL_buildSlice 292 (es := List.map a_i64 [(1 : Int), (-1 : Int)]) el26 z2 rfl rfl rfl rfl rfl rfl rfl rfl rfl ?_
                      refine TL_nil ?_
                      refine TZ_one 5 (by kernel_rfl) rfl ?_
                      refine TL_callO [(1000, 293)] (c_impl_combined [r45, p1] [(1 : Int), (-1 : Int)] r49 hr49) Try.call70 rfl rfl rfl rfl rfl rfl rfl rfl rfl rfl rfl rfl rfl ?_
                      refine TL_nil ?_
                      refine TZ_one 7 (by kernel_rfl) rfl ?_
                      refine TL_store_box sz41 rfl rfl rfl rfl rfl rfl rfl rfl rfl ?_
                      refine TL_nil ?_
                      refine TZ_done (by kernel_rfl) ?_
                      refine T_keepH [0, 6, 9] [167, 293] rfl rfl rfl rfl (by rw [hF]; rfl) ?_
                      refine T_ren [(167, 31), (293, 29)] rfl rfl rfl (by rw [hF]; rfl) ?_
                      refine T_keepH [0, 6, 9] [29, 31] rfl rfl rfl rfl (by rw [hF]; rfl) ?_
                      exact hj0 (r49.Const, r49.Coeffs) hm
                    · refine ⟨_, rfl, ?_⟩
                      refine TL_buildSlice 291 (es := List.map a_i64 [(1 : Int), (-1 : Int)]) el26 z2 rfl rfl rfl rfl rfl rfl rfl rfl rfl ?_
                      refine TL_nil ?_
                      refine TZ_one 3 (by kernel_rfl) rfl ?_
                      refine TL_freeze 288 (by rw [hF]; rfl) rfl rfl rfl ?_
                      refine TL_buildSlice 294 (es := List.map a_Term [r45, p1]) el24 z41 rfl rfl rfl rfl rfl rfl rfl rfl rfl ?_
                      refine TL_nil ?_
                      refine TZ_one 5 (by kernel_rfl) rfl ?_
                      refine TL_callO [(1000, 295)] (c_impl_combined [r45, p1] [(1 : Int), (-1 : Int)] r49 hr49) Try.call70 rfl rfl rfl rfl rfl rfl rfl rfl rfl rfl rfl rfl rfl ?_
                      refine TL_nil ?_
                      refine TZ_one 7 (by kernel_rfl) rfl ?_
                      refine TL_store_box sz41 rfl rfl rfl rfl rfl rfl rfl rfl rfl ?_
                      refine TL_nil ?_
                      refine TZ_done (by kernel_rfl) ?_
                      refine T_keepH [0, 6, 9] [167, 295] rfl rfl rfl rfl (by rw [hF]; rfl) ?_
                      refine T_ren [(167, 31), (295, 29)] rfl rfl rfl (by rw [hF]; rfl) ?_
                      refine T_keepH [0, 6, 9] [29, 31] rfl rfl rfl rfl (by rw [hF]; rfl) ?_
                      exact hj0 (r49.Const, r49.Coeffs) hm
                  · refine ⟨_, rfl, ?_⟩
                    refine TL_buildSlice 289 (es := List.map a_i64 [(1 : Int), (-1 : Int)]) el26 z2 rfl rfl rfl rfl rfl rfl rfl rfl rfl ?_
                    refine TL_nil ?_
                    refine TZ_one 1 (by kernel_rfl) rfl ?_
                    refine TL_callO [(1000, 296)] (c_impl_symbolTerm (9 : Int) r45 hr45) Try.call71 rfl rfl rfl rfl rfl rfl rfl rfl rfl rfl rfl rfl rfl ?_
                    refine TL_nil ?_
                    refine TZ_one 3 (by kernel_rfl) rfl ?_
                    refine TL_freeze 296 (by rw [hF]; rfl) rfl rfl rfl ?_
                    refine TL_buildSlice 297 (es := List.map a_Term [r45, p1]) el24 z41 rfl rfl rfl rfl rfl rfl rfl rfl rfl ?_
                    refine TL_nil ?_
                    refine TZ_one 5 (by kernel_rfl) rfl ?_
                    refine TL_callO [(1000, 298)] (c_impl_combined [r45, p1] [(1 : Int), (-1 : Int)] r49 hr49) Try.call70 rfl rfl rfl rfl rfl rfl rfl rfl rfl rfl rfl rfl rfl ?_
                    refine TL_nil ?_
                    refine TZ_one 7 (by kernel_rfl) rfl ?_
                    refine TL_store_box sz41 rfl rfl rfl rfl rfl rfl rfl rfl rfl ?_
                    refine TL_nil ?_
                    refine TZ_done (by kernel_rfl) ?_
                    refine T_keepH [0, 6, 9] [167, 298] rfl rfl rfl rfl (by rw [hF]; rfl) ?_
                    refine T_ren [(167, 31), (298, 29)] rfl rfl rfl (by rw [hF]; rfl) ?_
                    refine T_keepH [0, 6, 9] [29, 31] rfl rfl rfl rfl (by rw [hF]; rfl) ?_
                    exact hj0 (r49.Const, r49.Coeffs) hm
                · refine ⟨_, rfl, ?_⟩
                  refine TL_buildSlice 278 (es := List.map a_i64 [(1 : Int), (-1 : Int)]) el26 z2 rfl rfl rfl rfl rfl rfl rfl rfl rfl ?_
                  refine TL_nil ?_
                  refine TZ_pure 2 (by kernel_rfl) rfl rfl rfl rfl rfl (op_load_agg ag41 sz41 rfl rfl rfl) ?_
                  refine TZ_one 1 (by kernel_rfl) rfl ?_
                  refine TL_callO [(1000, 299)] (c_impl_symbolTerm (9 : Int) r45 hr45) Try.call71 rfl rfl rfl rfl rfl rfl rfl rfl rfl rfl rfl rfl rfl ?_
                  refine TL_nil ?_
                  refine TZ_one 3 (by kernel_rfl) rfl ?_
                  refine TL_freeze 299 (by rw [hF]; rfl) rfl rfl rfl ?_
                  refine TL_buildSlice 300 (es := List.map a_Term [r45, p1]) el24 z41 rfl rfl rfl rfl rfl rfl rfl rfl rfl ?_
                  refine TL_nil ?_
                  refine TZ_one 5 (by kernel_rfl) rfl ?_
                  refine TL_callO [(1000, 301)] (c_impl_combined [r45, p1] [(1 : Int), (-1 : Int)] r49 hr49) Try.call70 rfl rfl rfl rfl rfl rfl rfl rfl rfl rfl rfl rfl rfl ?_
                  refine TL_nil ?_
                  refine TZ_one 7 (by kernel_rfl) rfl ?_
                  refine TL_store_box sz41 rfl rfl rfl rfl rfl rfl rfl rfl rfl ?_
                  refine TL_nil ?_
                  refine TZ_done (by kernel_rfl) ?_
                  refine T_keepH [0, 6, 9] [167, 301] rfl rfl rfl rfl (by rw [hF]; rfl) ?_
                  refine T_ren [(167, 31), (301, 29)] rfl rfl rfl (by rw [hF]; rfl) ?_
                  refine T_keepH [0, 6, 9] [29, 31] rfl rfl rfl rfl (by rw [hF]; rfl) ?_
                  exact hj0 (r49.Const, r49.Coeffs) hm
          · unfold m_impl_LeastOf_A0 at hm
            obtain rfl := someI hm
            refine ⟨[_, _], [], ⟨rfl, rfl, trivial⟩, ?_, rfl, rfl, rfl, rfl⟩
            rfl
        · refine T_seq ?_
          refine T_region ?_
          refine TL_pure rfl rfl rfl rfl (op_lss rfl rfl) ?_
          refine TL_nil ?_
          refine T_seq ?_
          refine T_if_false rfl (decide_eq_false (by simp)) ?_
          refine T_keepH [0, 3, 6] [11] rfl rfl rfl rfl (by rw [hF]; rfl) ?_
          refine T_exit ?_
          exact hx0 (.inl ()) hm
        · unfold m_impl_LeastOf_L0 at hm
          refine T_seq ?_
          refine T_region ?_
          refine TL_pure rfl rfl rfl rfl (op_lss rfl rfl) ?_
          refine TL_nil ?_
          refine T_seq ?_
          refine T_if_true rfl (decide_eq_true (Int.ofNat_lt.2 hlt0)) ?_
          refine T_skip ?_
          refine T_seq ?_
          refine T_block ?_
          refine T_seq ?_
          refine T_region ?_
          refine TL_pure rfl rfl rfl rfl (op_index_sl el24 rfl rfl rfl (get_map hxn0) rfl) ?_
          refine TL_pure rfl rfl rfl rfl (op_load_agg ag41 sz41 rfl rfl rfl) ?_
          refine TL_alloc 13 z41 rfl rfl rfl rfl rfl rfl rfl ?_
          refine TL_store_box sz41 rfl rfl rfl rfl rfl rfl rfl rfl rfl ?_
          refine TL_nil ?_
          refine T_seq ?_
          refine T_region ?_
          refine TL_pure rfl rfl rfl rfl (op_load_agg ag41 sz41 rfl rfl rfl) ?_
          refine TL_pure rfl rfl rfl rfl (op_move rfl) ?_
          obtain ⟨r41, hr41, hm⟩ := bindS hm
          refine TL_callF (c_impl_Term_coeff x0 (9 : Int) r41 hr41) Try.call69 rfl rfl rfl rfl rfl ?_
          refine TL_pure rfl rfl rfl rfl (op_neq rfl rfl) ?_
          refine TL_nil ?_
          refine T_cond rfl (fun hq => ?_) (fun hq => ?_)
          · replace hm := condT hq hm
            refine T_seq ?_
            refine T_region ?_
            refine TL_pure rfl rfl rfl rfl (op_assign rfl) ?_
            refine TL_pure rfl rfl rfl rfl (op_assign rfl) ?_
            refine TL_nil ?_
            refine T_keepH [4, 5] [] rfl rfl rfl rfl (by rw [hF]; rfl) ?_
            refine T_ret ?_
            obtain rfl := someI hm
            have hn := CtlOK_out hc0
            exact hx0 (.inr ((0 : Int), false)) hn
          · replace hm := condF hq hm
            refine T_skip ?_
            refine T_region ?_
            refine TL_pure rfl rfl rfl rfl (op_addN rfl rfl (Nat.lt_of_lt_of_le hlt0 hlen34)) ?_
            refine TL_pure rfl rfl rfl rfl (op_move rfl) ?_
            refine TL_nil ?_
            refine TR_keepH [0, 3, 6, 33, 34, 35] [11] rfl rfl rfl rfl (by rw [hF]; rfl) ?_
            obtain rfl := someI hm
            have hn := CtlOK_next hc0
            exact hn _ rfl
theorem c_spec_l02Own (p0 : Term) (out : Term) (hm : m_spec_l02Own p0 = some out) : ACall Try.prog 76 [.cp [.int .i64 p0.Const, .sl 1 (List.map a_i64 p0.Coeffs)]] [] (.agg [.int .i64 out.Const, .ow 1000]) [(1000, .arr ⟨false, true⟩ 1 2 (List.map a_i64 out.Coeffs))] := by
  refine ACall.intro Try.func76 rfl Try.ntmps76 rfl (fun F hF => ?_)
  unfold m_spec_l02Own at hm
  refine T_seq ?_
  refine T_region ?_
  refine TL_alloc 11 z41 rfl rfl rfl rfl rfl rfl rfl ?_
  refine TL_nil ?_
  refine T_seq ?_
  refine T_drawZ [10] mix (by kernel_rfl) rfl ?_
  obtain ⟨r11, hr11, hm⟩ := bindS hm
  refine TZ_pure 0 (by kernel_rfl) rfl rfl rfl rfl rfl (op_move rfl) ?_
  refine TZ_pure 1 (by kernel_rfl) rfl rfl rfl rfl rfl (op_nilCheck rfl rfl) ?_
  refine TZ_pure 2 (by kernel_rfl) rfl rfl rfl rfl rfl (op_fieldAddrC (n := 1) fa41_0 rfl rfl rfl) ?_
  refine TZ_pure 3 (by kernel_rfl) rfl rfl rfl rfl rfl (op_load_one ag2 rfl rfl) ?_
  refine TZ_pure 4 (by kernel_rfl) rfl rfl rfl rfl rfl (op_move rfl) ?_
  refine TZ_pure 5 (by kernel_rfl) rfl rfl rfl rfl rfl (op_nilCheck rfl rfl) ?_
  refine TZ_pure 6 (by kernel_rfl) rfl rfl rfl rfl rfl (op_fieldAddr fa41_1 rfl rfl) ?_
  refine TZ_pure 7 (by kernel_rfl) rfl rfl rfl rfl rfl (op_load_one ag26 rfl rfl) ?_
  refine TZ_one 8 (by kernel_rfl) rfl ?_
  refine TL_callO [(1000, 13)] (c_spec_l00Own p0.Coeffs r11 hr11) Try.call54 rfl rfl rfl rfl rfl rfl rfl rfl rfl rfl rfl rfl rfl ?_
  refine TL_nil ?_
  refine TZ_pure 9 (by kernel_rfl) rfl rfl rfl rfl rfl (op_buildP pl41 z41 rfl rfl rfl rfl rfl) ?_
  refine TZ_one 10 (by kernel_rfl) rfl ?_
  refine TL_store_box sz41 rfl rfl rfl rfl rfl rfl rfl rfl rfl ?_
  refine TL_nil ?_
  refine TZ_done (by kernel_rfl) ?_
  refine T_keepH [2] [11, 13] rfl rfl rfl rfl (by rw [hF]; rfl) ?_
  refine T_ren [(11, 11), (13, 1000)] rfl rfl rfl (by rw [hF]; rfl) ?_
  refine T_ret ?_
  obtain rfl := someI hm
  refine ⟨[_], [1000], ⟨⟨_, _, rfl, rfl, .inr ⟨ag41, _, _, sz41, rfl, rfl⟩⟩, trivial⟩, ?_, rfl, rfl, rfl, rfl⟩
  rfl
theorem c_spec_l02OwnAll (p0 : List Term) (out : List Term) (hm : m_spec_l02OwnAll p0 = some out) : ACall Try.prog 75 [.sl 2 (List.map a_Term p0)] [] (.ow 1000) [(1000, .arr ⟨false, true⟩ 2 41 (List.map a_Term out))] := by
  refine ACall.intro Try.func75 rfl Try.ntmps75 rfl (fun F hF => ?_)
  unfold m_spec_l02OwnAll at hm
  refine T_seq ?_
  refine T_region ?_
  refine TL_pure rfl rfl rfl rfl (op_assign rfl) ?_
  refine TL_nil ?_
  refine T_seq ?_
  refine T_region ?_
  refine TL_buildSlice 11 (es := List.map a_Term ([] : List Term)) el24 z41 rfl rfl rfl rfl rfl rfl rfl rfl rfl ?_
  refine TL_pure rfl rfl rfl rfl (op_assign rfl) ?_
  refine TL_nil ?_
  refine T_seq ?_
  refine T_seq ?_
  refine T_region ?_
  refine TL_pure rfl rfl rfl rfl (op_assign rfl) ?_
  refine TL_nil ?_
  refine T_block ?_
  refine T_keepH [0, 3, 4] [11] rfl rfl rfl rfl (by rw [hF]; rfl) ?_
  refine T_deepen 11 (p' := false) (List.map a_Term ([] : List Term)) (by rw [hF]; rfl) rfl (ElR.nil) rfl rfl rfl ?_
  refine T_loop ?_
  obtain ⟨u0, hl0, hm⟩ := bindS hm
  refine TR_iter2 (m_spec_l02OwnAll_L0 p0) (fun (s0 : (List Term) × Int) => ⟨[(0, .sl 2 (List.map a_Term p0)), (3, .ow 11), (4, .int .i64 s0.2)], [(11, .arr ⟨false, true⟩ 2 41 (List.map a_Term s0.1))]⟩) (fun u0 => .exit 0) (fun u0 => ⟨[(3, .ow 11)], [(11, .arr ⟨false, true⟩ 2 41 (List.map a_Term u0))]⟩) (fun u0 => m_spec_l02OwnAll_A0 u0 = some out) hl0 hm (fun u0 hm => ?_) (fun hx0 s0 c0 hm hc0 => ?_)
  · unfold m_spec_l02OwnAll_A0 at hm
    refine T_seq ?_
    refine T_region ?_
    refine TL_pure rfl rfl rfl rfl (op_move rfl) ?_
    refine TL_pure rfl rfl rfl rfl (op_assign rfl) ?_
    refine TL_nil ?_
    refine T_keepH [2] [11] rfl rfl rfl rfl (by rw [hF]; rfl) ?_
    refine T_ren [(11, 1000)] rfl rfl rfl (by rw [hF]; rfl) ?_
    refine T_ret ?_
    obtain rfl := someI hm
    refine ⟨[_], [1000], ⟨rfl, trivial⟩, ?_, rfl, rfl, rfl, rfl⟩
    rfl
  · unfold m_spec_l02OwnAll_L0 at hm
    refine T_seq ?_
    refine T_seq ?_
    refine T_region ?_
    refine TL_pure rfl rfl rfl rfl (op_move rfl) ?_
    refine TL_pure rfl rfl rfl rfl (op_move rfl) ?_
    refine TL_pure rfl rfl rfl rfl (op_lenT Try.underlying24 rfl (List.length_map _)) ?_
    refine TL_fact (fun _ _ _ hr => RelP.slLen (i := 7) rfl hr) (fun hlen8 => ?_)
    rw [List.length_map] at hlen8
    refine TL_pure rfl rfl rfl rfl (op_lss rfl rfl) ?_
    refine TL_nil ?_
    refine T_cond rfl (fun hq => ?_) (fun hq => ?_)
    · replace hm := condT hq hm
      refine T_skip ?_
      refine T_seq ?_
      refine T_block ?_
      refine T_region ?_
      refine TL_pure rfl rfl rfl rfl (op_move rfl) ?_
      refine TL_pure rfl rfl rfl rfl (op_move rfl) ?_
      refine TL_pure rfl rfl rfl rfl (op_move rfl) ?_
      obtain ⟨x15, hx15, hm⟩ := bindS hm
      refine TL_pure rfl rfl rfl rfl (op_indexT el24 rfl rfl hx15 rfl) ?_
      obtain ⟨r16, hr16, hm⟩ := bindS hm
      refine TL_callO [(1000, 16)] (c_spec_l02Own x15 r16 hr16) Try.call76 rfl rfl rfl rfl rfl rfl rfl rfl rfl rfl rfl rfl rfl ?_
      refine TL_buildSliceD (ids := [16]) (es := List.map a_Term [r16]) 17 el24 z41 rfl rfl rfl rfl rfl rfl (by rw [hF]; intro j hj; simp only [List.mem_cons, List.not_mem_nil, or_false] at hj; rcases hj with rfl <;> rfl) rfl rfl rfl rfl rfl rfl ?_
      obtain ⟨q18, hq18, hm⟩ := bindS hm
      refine TL_appendDT (f := a_Term) (a := s0.1) (b := [r16]) el24 z41 rfl rfl rfl rfl rfl rfl rfl rfl (by rw [hF]; rfl) (capI_spec hq18) rfl rfl rfl rfl rfl ?_
      refine TL_pure rfl rfl rfl rfl (op_assign rfl) ?_
      refine TL_nil ?_
      refine T_region ?_
      refine TL_pure rfl rfl rfl rfl (op_move rfl) ?_
      refine TL_pure rfl rfl rfl rfl (op_addW rfl rfl) ?_
      refine TL_pure rfl rfl rfl rfl (op_assign rfl) ?_
      refine TL_nil ?_
      refine TR_keepH [0, 3, 4] [11] rfl rfl rfl rfl (by rw [hF]; rfl) ?_
      obtain rfl := someI hm
      have hn := CtlOK_next hc0
      exact hn _ rfl
    · replace hm := condF hq hm
      refine T_keepH [3] [11] rfl rfl rfl rfl (by rw [hF]; rfl) ?_
      refine T_exit ?_
      obtain rfl := someI hm
      have hn := CtlOK_out hc0
      exact hx0 s0.1 hn
theorem c_spec_l06Up (p0 : Int) (p1 : Int) (out : Int) (hm : m_spec_l06Up p0 p1 = some out) : ACall Try.prog 78 [.int .i64 p0, .int .i64 p1] [] (.int .i64 out) [] := by
  refine ACall.intro Try.func78 rfl Try.ntmps78 rfl (fun F hF => ?_)
  unfold m_spec_l06Up at hm
  refine T_seq ?_
  refine T_region ?_
  refine TL_pure rfl rfl rfl rfl (op_assign rfl) ?_
  refine TL_nil ?_
  refine T_seq ?_
  refine T_region ?_
  refine TL_pure rfl rfl rfl rfl (op_move rfl) ?_
  refine TL_pure rfl rfl rfl rfl (op_negW rfl) ?_
  refine TL_pure rfl rfl rfl rfl (op_move rfl) ?_
  obtain ⟨q9, hq9, hm⟩ := bindS hm
  refine TL_pure rfl rfl rfl rfl (op_quoT rfl rfl hq9) ?_
  refine TL_pure rfl rfl rfl rfl (op_assign rfl) ?_
  refine TL_nil ?_
  refine T_seq ?_
  refine T_seq ?_
  refine T_region ?_
  refine TL_pure rfl rfl rfl rfl (op_move rfl) ?_
  refine TL_pure rfl rfl rfl rfl (op_move rfl) ?_
  refine TL_pure rfl rfl rfl rfl (op_mulW rfl rfl) ?_
  refine TL_pure rfl rfl rfl rfl (op_move rfl) ?_
  refine TL_pure rfl rfl rfl rfl (op_negW rfl) ?_
  refine TL_pure rfl rfl rfl rfl (op_lss rfl rfl) ?_
  refine TL_nil ?_
  refine T_cond rfl (fun hq => ?_) (fun hq => ?_)
  · replace hm := condT hq hm
    refine T_region ?_
    refine TL_pure rfl rfl rfl rfl (op_move rfl) ?_
    refine TL_pure rfl rfl rfl rfl (op_addW rfl rfl) ?_
    refine TL_pure rfl rfl rfl rfl (op_assign rfl) ?_
    refine TL_nil ?_
    refine T_seq ?_
    refine T_region ?_
    refine TL_pure rfl rfl rfl rfl (op_move rfl) ?_
    refine TL_pure rfl rfl rfl rfl (op_assign rfl) ?_
    refine TL_nil ?_
    refine T_keepH [4] [] rfl rfl rfl rfl (by rw [hF]; rfl) ?_
    refine T_ret ?_
    obtain rfl := someI hm
    refine ⟨[_], [], ⟨rfl, trivial⟩, ?_, rfl, rfl, rfl, rfl⟩
    rfl
  · replace hm := condF hq hm
    refine T_skip ?_
    refine T_seq ?_
    refine T_region ?_
    refine TL_pure rfl rfl rfl rfl (op_move rfl) ?_
    refine TL_pure rfl rfl rfl rfl (op_assign rfl) ?_
    refine TL_nil ?_
    refine T_keepH [4] [] rfl rfl rfl rfl (by rw [hF]; rfl) ?_
    refine T_ret ?_
    obtain rfl := someI hm
    refine ⟨[_], [], ⟨rfl, trivial⟩, ?_, rfl, rfl, rfl, rfl⟩
    rfl
end Go.Mod
