import Derived.Test.YtpphpgkimfejpaaGf
namespace Go.Mod
open Go Go.AM Go.Proofs
set_option linter.unusedVariables false
set_option linter.unusedSimpArgs false
set_option maxRecDepth 100000
set_option maxHeartbeats 8000000
theorem c_impl_LeastCounter (p0 : Sequent) (p1 : Int) (out : (List Int) × Bool) (hm : m_impl_LeastCounter p0 p1 = some out) : ACall Try.prog 40 [.agg [.sl 2 (List.map a_Term p0.Facts), .int .i64 p0.Goal.Const, .sl 1 (List.map a_i64 p0.Goal.Coeffs)], .int .i64 p1] [] (.tup [.ow 1000, .bool out.2]) [(1000, .arr ⟨false, true⟩ 1 2 (List.map a_i64 out.1))] := by
  refine ACall.intro Try.func40 rfl Try.ntmps40 rfl (fun F hF => ?_)
  unfold m_impl_LeastCounter at hm
  refine T_seq ?_
  refine T_region ?_
  refine TL_box 11 rfl rfl rfl rfl rfl rfl rfl ?_
  refine TL_pure rfl rfl rfl rfl (op_assign rfl) ?_
  refine TL_pure rfl rfl rfl rfl (op_assign rfl) ?_
  refine TL_nil ?_
  refine T_seq ?_
  refine T_seq ?_
  refine T_region ?_
  refine TL_pure rfl rfl rfl rfl (op_load_agg ag54 sz54 rfl rfl rfl) ?_
  obtain ⟨r12, hr12, hm⟩ := bindS hm
  refine TL_callF (ACall.F (F := F) (c_impl_ValidSequent p0 r12 hr12)) Try.call81 rfl rfl rfl rfl rfl ?_
  refine TL_pure rfl rfl rfl rfl (op_not rfl) ?_
  refine TL_pure rfl rfl rfl rfl (op_move rfl) ?_
  refine TL_split 14 rfl rfl rfl (fun hq => ?_) (fun hq => ?_)
  · replace hm := condT hq hm
    refine TL_pass rfl rfl rfl rfl rfl rfl rfl ?_
    refine TL_pass rfl rfl rfl rfl rfl rfl rfl ?_
    refine TL_pass rfl rfl rfl rfl rfl rfl rfl ?_
    refine TL_pure rfl rfl rfl rfl (op_pick_true rfl rfl) ?_
    refine TL_nil ?_
    refine T_cond_true rfl ?_
    refine T_seq ?_
    refine T_region ?_
    refine TL_pure rfl rfl rfl rfl (op_assign rfl) ?_
    refine TL_pure rfl rfl rfl rfl (op_assign rfl) ?_
    refine TL_nil ?_
    refine T_ownNil 4 12 ⟨false, true⟩ 2 rfl rfl (sz := 1) rfl rfl rfl ?_
    refine T_keepH [4, 5] [12] rfl rfl rfl rfl (by rw [hF]; rfl) ?_
    refine T_ren [(12, 1000)] rfl rfl rfl (by rw [hF]; rfl) ?_
    refine T_ret ?_
    obtain rfl := someI hm
    refine ⟨[_, _], [1000], ⟨rfl, rfl, trivial⟩, ?_, rfl, rfl, rfl, rfl⟩
    rfl
  · replace hm := condF hq hm
    refine TL_want rfl rfl ?_
    refine TL_pure rfl rfl rfl rfl (op_move rfl) ?_
    refine TL_want rfl rfl ?_
    obtain ⟨r16, hr16, hm⟩ := bindS hm
    refine TL_callF (ACall.F (F := F) (c_impl_within p1 (0 : Int) (4 : Int) r16 hr16)) Try.call87 rfl rfl rfl rfl rfl ?_
    refine TL_want rfl rfl ?_
    refine TL_pure rfl rfl rfl rfl (op_not rfl) ?_
    refine TL_pure rfl rfl rfl rfl (op_pick_false rfl rfl) ?_
    refine TL_nil ?_
    refine T_cond rfl (fun hq => ?_) (fun hq => ?_)
    · replace hm := condT hq hm
      refine T_seq ?_
      refine T_region ?_
      refine TL_pure rfl rfl rfl rfl (op_assign rfl) ?_
      refine TL_pure rfl rfl rfl rfl (op_assign rfl) ?_
      refine TL_nil ?_
      refine T_ownNil 4 13 ⟨false, true⟩ 2 rfl rfl (sz := 1) rfl rfl rfl ?_
      refine T_keepH [4, 5] [13] rfl rfl rfl rfl (by rw [hF]; rfl) ?_
      refine T_ren [(13, 1000)] rfl rfl rfl (by rw [hF]; rfl) ?_
      refine T_ret ?_
      obtain rfl := someI hm
      refine ⟨[_, _], [1000], ⟨rfl, rfl, trivial⟩, ?_, rfl, rfl, rfl, rfl⟩
      rfl
    · replace hm := condF hq hm
      refine T_skip ?_
      refine T_join (fun (j0 : List Int) => ⟨[(1, .int .i64 p1), (2, .ptr 11 0 0), (6, .ow 654)], [(11, .box [.sl 2 (List.map a_Term p0.Facts), .int .i64 p0.Goal.Const, .sl 1 (List.map a_i64 p0.Goal.Coeffs)]), (654, .arr ⟨false, true⟩ 1 2 (List.map a_i64 j0))]⟩) (fun j0 => m_impl_LeastCounter_J0 p0 p1 j0 = some out) (fun j0 hm => ?_) (fun hj0 => ?_)
      · unfold m_impl_LeastCounter_J0 at hm
        refine T_seq ?_
        refine T_seq ?_
        refine T_region ?_
        refine TL_pure rfl rfl rfl rfl (op_move rfl) ?_
        refine TL_pure rfl rfl rfl rfl (op_lenO Try.underlying26 rfl rfl (List.length_map _)) ?_
        refine TL_fact (fun _ _ _ hr => RelP.owLen (id := 654) rfl hr) (fun hlen28 => ?_)
        rw [List.length_map] at hlen28
        refine TL_pure rfl rfl rfl rfl (op_gtr rfl rfl) ?_
        refine TL_nil ?_
        refine T_cond rfl (fun hq => ?_) (fun hq => ?_)
        · replace hm := condT hq hm
          refine T_seq ?_
          refine T_region ?_
          refine TL_pure rfl rfl rfl rfl (op_assign rfl) ?_
          refine TL_pure rfl rfl rfl rfl (op_assign rfl) ?_
          refine TL_nil ?_
          refine T_ownNil 4 734 ⟨false, true⟩ 2 rfl rfl (sz := 1) rfl rfl rfl ?_
          refine T_keepH [4, 5] [734] rfl rfl rfl rfl (by rw [hF]; rfl) ?_
          refine T_ren [(734, 1000)] rfl rfl rfl (by rw [hF]; rfl) ?_
          refine T_ret ?_
          obtain rfl := someI hm
          refine ⟨[_, _], [1000], ⟨rfl, rfl, trivial⟩, ?_, rfl, rfl, rfl, rfl⟩
          rfl
        · replace hm := condF hq hm
          refine T_skip ?_
          refine T_seq ?_
          refine T_region ?_
          obtain ⟨k30, hk30, hm⟩ := bindS hm
          refine TL_make 735 (n := k30) el26 z2 rfl rfl rfl rfl rfl rfl (makeI_spec hk30).1 (makeI_spec hk30).1 (makeI_spec hk30).2 rfl rfl rfl rfl ?_
          refine TL_nils 735 (List.map a_i64 (List.replicate k30 (0 : Int))) (by rw [hF]; rfl) rfl (ElR.rep (z := .int .i64 (0 : Int)) (g := a_i64) (x := (0 : Int)) ⟨⟨rfl, rfl⟩, trivial⟩ k30) rfl ?_
          refine TL_pure rfl rfl rfl rfl (op_assign rfl) ?_
          refine TL_nil ?_
          refine T_seq ?_
          refine T_seq ?_
          refine T_region ?_
          refine TL_pure rfl rfl rfl rfl (op_move rfl) ?_
          refine TL_pure rfl rfl rfl rfl (op_lenO Try.underlying26 rfl rfl (List.length_map _)) ?_
          refine TL_pure rfl rfl rfl rfl (op_move rfl) ?_
          refine TL_nil ?_
          refine T_block ?_
          refine T_keepH [1, 2, 6, 7, 31, 32, 33] [11, 654, 735] rfl rfl rfl rfl (by rw [hF]; rfl) ?_
          refine T_loop ?_
          obtain ⟨u0, hl0, hm⟩ := bindS hm
          refine TR_forL2 j0 (m_impl_LeastCounter_L0 p1) (fun (s0 : List Int) => s0) (fun n0 (s0 : List Int) => ⟨[(1, .int .i64 p1), (2, .ptr 11 0 0), (6, .ow 654), (7, .ow 735), (31, .ow 654), (32, .int .i64 (j0.length : Int)), (33, .int .i64 (n0 : Int))], [(11, .box [.sl 2 (List.map a_Term p0.Facts), .int .i64 p0.Goal.Const, .sl 1 (List.map a_i64 p0.Goal.Coeffs)]), (654, .arr ⟨false, true⟩ 1 2 (List.map a_i64 j0)), (735, .arr ⟨false, false⟩ 1 2 (List.map a_i64 s0))]⟩) (fun u0 => .exit 0) (fun u0 => ⟨[(1, .int .i64 p1), (2, .ptr 11 0 0), (6, .ow 654), (7, .ow 735)], [(11, .box [.sl 2 (List.map a_Term p0.Facts), .int .i64 p0.Goal.Const, .sl 1 (List.map a_i64 p0.Goal.Coeffs)]), (654, .arr ⟨false, true⟩ 1 2 (List.map a_i64 j0)), (735, .arr ⟨false, false⟩ 1 2 (List.map a_i64 u0))]⟩) (fun u0 => m_impl_LeastCounter_A0 p0 p1 j0 u0 = some out) hl0 hm (fun u0 hm => ?_) (fun hx0 s0 hm => ?_) (fun hx0 n0 x0 s0 c0 hxn0 hlt0 hm hc0 => ?_)
          · unfold m_impl_LeastCounter_A0 at hm
            refine T_block ?_
            refine T_keepH [1, 2, 6, 7] [11, 654, 735] rfl rfl rfl rfl (by rw [hF]; rfl) ?_
            refine T_loop ?_
            obtain ⟨u1, hl1, hm⟩ := bindS hm
            refine TR_iter2 (m_impl_LeastCounter_L1 p0 p1 j0) (fun (s1 : List Int) => ⟨[(1, .int .i64 p1), (2, .ptr 11 0 0), (6, .ow 654), (7, .ow 735)], [(11, .box [.sl 2 (List.map a_Term p0.Facts), .int .i64 p0.Goal.Const, .sl 1 (List.map a_i64 p0.Goal.Coeffs)]), (654, .arr ⟨false, true⟩ 1 2 (List.map a_i64 j0)), (735, .arr ⟨false, false⟩ 1 2 (List.map a_i64 s1))]⟩) (fun u1 => .ret) (fun u1 => ⟨[(4, .ow 1000), (5, .bool u1.2)], [(1000, .arr ⟨false, true⟩ 1 2 (List.map a_i64 u1.1))]⟩) (fun u1 => m_impl_LeastCounter_A1 u1 = some out) hl1 hm (fun u1 hm => ?_) (fun hx1 s1 c1 hm hc1 => ?_)
            · unfold m_impl_LeastCounter_A1 at hm
              obtain rfl := someI hm
              refine ⟨[_, _], [1000], ⟨rfl, rfl, trivial⟩, ?_, rfl, rfl, rfl, rfl⟩
              rfl
            · unfold m_impl_LeastCounter_L1 at hm
              refine T_block ?_
              refine T_seq ?_
              refine T_seq ?_
              refine T_region ?_
              refine TL_pure rfl rfl rfl rfl (op_load_agg ag54 sz54 rfl rfl rfl) ?_
              refine TL_pure rfl rfl rfl rfl (op_move rfl) ?_
              obtain ⟨r45, hr45, hm⟩ := bindS hm
              refine TL_callF (ACall.F (F := F) (c_impl_IsCounter p0 s1 r45 hr45)) Try.call39 rfl rfl rfl rfl rfl ?_
              refine TL_nil ?_
              refine T_cond rfl (fun hq => ?_) (fun hq => ?_)
              · replace hm := condT hq hm
                refine T_seq ?_
                refine T_region ?_
                refine TL_pure rfl rfl rfl rfl (op_move rfl) ?_
                refine TL_pure rfl rfl rfl rfl (op_assign rfl) ?_
                refine TL_pure rfl rfl rfl rfl (op_assign rfl) ?_
                refine TL_nil ?_
                refine T_keepH [4, 5] [735] rfl rfl rfl rfl (by rw [hF]; rfl) ?_
                refine T_deepen 735 (p' := false) (List.map a_i64 s1) (by rw [hF]; rfl) rfl (ElR.map (f := a_i64) (g := a_i64) (fun _ => ⟨⟨rfl, rfl⟩, trivial⟩) s1) rfl rfl rfl ?_
                refine T_ren [(735, 1000)] rfl rfl rfl (by rw [hF]; rfl) ?_
                refine T_ret ?_
                obtain rfl := someI hm
                have hn := CtlOK_out hc1
                exact hx1 (s1, true) hn
              · replace hm := condF hq hm
                refine T_skip ?_
                refine T_seq ?_
                refine T_region ?_
                refine TL_pure rfl rfl rfl rfl (op_move rfl) ?_
                refine TL_pure rfl rfl rfl rfl (op_lenO Try.underlying26 rfl rfl (List.length_map _)) ?_
                refine TL_pure rfl rfl rfl rfl (op_subW rfl rfl) ?_
                refine TL_pure rfl rfl rfl rfl (op_assign rfl) ?_
                refine TL_nil ?_
                refine T_seq ?_
                refine T_block ?_
                refine T_keepH [1, 2, 6, 7, 10] [11, 654, 735] rfl rfl rfl rfl (by rw [hF]; rfl) ?_
                refine T_loop ?_
                obtain ⟨u2, hl2, hm⟩ := bindS hm
                refine TR_iter2 (m_impl_LeastCounter_L2 p1 j0) (fun (s2 : (List Int) × Int) => ⟨[(1, .int .i64 p1), (2, .ptr 11 0 0), (6, .ow 654), (7, .ow 735), (10, .int .i64 s2.2)], [(11, .box [.sl 2 (List.map a_Term p0.Facts), .int .i64 p0.Goal.Const, .sl 1 (List.map a_i64 p0.Goal.Coeffs)]), (654, .arr ⟨false, true⟩ 1 2 (List.map a_i64 j0)), (735, .arr ⟨false, false⟩ 1 2 (List.map a_i64 s2.1))]⟩) (fun u2 => .exit 4) (fun u2 => ⟨[(1, .int .i64 p1), (2, .ptr 11 0 0), (6, .ow 654), (7, .ow 735), (10, .int .i64 u2.2)], [(11, .box [.sl 2 (List.map a_Term p0.Facts), .int .i64 p0.Goal.Const, .sl 1 (List.map a_i64 p0.Goal.Coeffs)]), (654, .arr ⟨false, true⟩ 1 2 (List.map a_i64 j0)), (735, .arr ⟨false, false⟩ 1 2 (List.map a_i64 u2.1))]⟩) (fun u2 => m_impl_LeastCounter_A2 j0 u2 = some c1) hl2 hm (fun u2 hm => ?_) (fun hx2 s2 c2 hm hc2 => ?_)
                · unfold m_impl_LeastCounter_A2 at hm
                  refine T_seq ?_
                  refine T_seq ?_
                  refine T_region ?_
                  refine TL_pure rfl rfl rfl rfl (op_move rfl) ?_
                  refine TL_pure rfl rfl rfl rfl (op_lss rfl rfl) ?_
                  refine TL_nil ?_
                  refine T_cond rfl (fun hq => ?_) (fun hq => ?_)
                  · replace hm := condT hq hm
                    refine T_seq ?_
                    refine T_region ?_
                    refine TL_pure rfl rfl rfl rfl (op_assign rfl) ?_
                    refine TL_pure rfl rfl rfl rfl (op_assign rfl) ?_
                    refine TL_nil ?_
                    refine T_ownNil 4 736 ⟨false, true⟩ 2 rfl rfl (sz := 1) rfl rfl rfl ?_
                    refine T_keepH [4, 5] [736] rfl rfl rfl rfl (by rw [hF]; rfl) ?_
                    refine T_ren [(736, 1000)] rfl rfl rfl (by rw [hF]; rfl) ?_
                    refine T_ret ?_
                    obtain rfl := someI hm
                    have hn := CtlOK_out hc1
                    exact hx1 (([] : List Int), false) hn
                  · replace hm := condF hq hm
                    refine T_skip ?_
                    refine T_region ?_
                    refine TL_pure rfl rfl rfl rfl (op_move rfl) ?_
                    refine TL_pure rfl rfl rfl rfl (op_move rfl) ?_
                    refine TL_pure rfl rfl rfl rfl (op_move rfl) ?_
                    obtain ⟨x78, hx78, hm⟩ := bindS hm
                    refine TL_pure rfl rfl rfl rfl (op_indexO el26 rfl rfl rfl hx78) ?_
                    refine TL_pure rfl rfl rfl rfl (op_loadD1 ag2 rfl rfl ((getI_spec hx78).2) rfl rfl rfl rfl) ?_
                    obtain ⟨x80, hx80, hm⟩ := bindS hm
                    refine TL_pure rfl rfl rfl rfl (op_indexO el26 rfl rfl rfl hx80) ?_
                    refine TL_pure rfl rfl rfl rfl (op_loadT1 ag2 rfl rfl ((getI_spec hx80).2) rfl rfl) ?_
                    refine TL_pure rfl rfl rfl rfl (op_addW rfl rfl) ?_
                    refine TL_pure rfl rfl rfl rfl (op_indexO el26 rfl rfl rfl hx80) ?_
                    refine TL_storeT sz2 rfl rfl ((getI_spec hx80).2) (v' := (w64 (x80 + (1 : Int)))) rfl rfl rfl rfl rfl rfl rfl rfl rfl rfl ?_
                    refine TL_nil ?_
                    refine TR_keepH [1, 2, 6, 7] [11, 654, 735] rfl rfl rfl rfl (by rw [hF]; rfl) ?_
                    obtain rfl := someI hm
                    have hn := CtlOK_next hc1
                    exact hn _ rfl
                · unfold m_impl_LeastCounter_L2 at hm
                  refine T_seq ?_
                  refine T_seq ?_
                  refine T_region ?_
                  refine TL_pure rfl rfl rfl rfl (op_move rfl) ?_
                  refine TL_pure rfl rfl rfl rfl (op_geq rfl rfl) ?_
                  refine TL_pure rfl rfl rfl rfl (op_move rfl) ?_
                  refine TL_split 52 rfl rfl rfl (fun hq => ?_) (fun hq => ?_)
                  · replace hm := condT hq hm
                    refine TL_want rfl rfl ?_
                    refine TL_pure rfl rfl rfl rfl (op_move rfl) ?_
                    refine TL_want rfl rfl ?_
                    refine TL_pure rfl rfl rfl rfl (op_move rfl) ?_
                    refine TL_want rfl rfl ?_
                    refine TL_pure rfl rfl rfl rfl (op_move rfl) ?_
                    refine TL_want rfl rfl ?_
                    obtain ⟨x56, hx56, hm⟩ := bindS hm
                    refine TL_pure rfl rfl rfl rfl (op_indexO el26 rfl rfl rfl hx56) ?_
                    refine TL_want rfl rfl ?_
                    refine TL_pure rfl rfl rfl rfl (op_loadD1 ag2 rfl rfl ((getI_spec hx56).2) rfl rfl rfl rfl) ?_
                    refine TL_want rfl rfl ?_
                    obtain ⟨x58, hx58, hm⟩ := bindS hm
                    refine TL_pure rfl rfl rfl rfl (op_indexO el26 rfl rfl rfl hx58) ?_
                    refine TL_want rfl rfl ?_
                    refine TL_pure rfl rfl rfl rfl (op_loadT1 ag2 rfl rfl ((getI_spec hx58).2) rfl rfl) ?_
                    refine TL_want rfl rfl ?_
                    refine TL_pure rfl rfl rfl rfl (op_move rfl) ?_
                    refine TL_want rfl rfl ?_
                    refine TL_pure rfl rfl rfl rfl (op_eql rfl rfl) ?_
                    refine TL_pure rfl rfl rfl rfl (op_pick_true rfl rfl) ?_
                    refine TL_nil ?_
                    refine T_cond rfl (fun hq => ?_) (fun hq => ?_)
                    · replace hm := condT hq hm
                      refine T_skip ?_
                      refine T_block ?_
                      refine T_seq ?_
                      refine T_region ?_
                      refine TL_pure rfl rfl rfl rfl (op_move rfl) ?_
                      refine TL_pure rfl rfl rfl rfl (op_move rfl) ?_
                      refine TL_pure rfl rfl rfl rfl (op_move rfl) ?_
                      refine TL_pure rfl rfl rfl rfl (op_indexO el26 rfl rfl rfl hx56) ?_
                      refine TL_pure rfl rfl rfl rfl (op_loadD1 ag2 rfl rfl ((getI_spec hx56).2) rfl rfl rfl rfl) ?_
                      refine TL_pure rfl rfl rfl rfl (op_move rfl) ?_
                      refine TL_pure rfl rfl rfl rfl (op_negW rfl) ?_
                      refine TL_pure rfl rfl rfl rfl (op_indexO el26 rfl rfl rfl hx58) ?_
                      refine TL_storeT sz2 rfl rfl ((getI_spec hx58).2) (v' := (w64 (0 - p1))) rfl rfl rfl rfl rfl rfl rfl rfl rfl rfl ?_
                      refine TL_nil ?_
                      refine T_region ?_
                      refine TL_pure rfl rfl rfl rfl (op_move rfl) ?_
                      refine TL_pure rfl rfl rfl rfl (op_subW rfl rfl) ?_
                      refine TL_pure rfl rfl rfl rfl (op_assign rfl) ?_
                      refine TL_nil ?_
                      refine TR_keepH [1, 2, 6, 7, 10] [11, 654, 735] rfl rfl rfl rfl (by rw [hF]; rfl) ?_
                      obtain rfl := someI hm
                      have hn := CtlOK_next hc2
                      exact hn _ rfl
                    · replace hm := condF hq hm
                      refine T_keepH [1, 2, 6, 7, 10] [11, 654, 735] rfl rfl rfl rfl (by rw [hF]; rfl) ?_
                      refine T_exit ?_
                      obtain rfl := someI hm
                      have hn := CtlOK_out hc2
                      exact hx2 (s2.1, s2.2) hn
                  · replace hm := condF hq hm
                    refine TL_pass rfl rfl rfl rfl rfl rfl rfl ?_
                    refine TL_pass rfl rfl rfl rfl rfl rfl rfl ?_
                    refine TL_pass rfl rfl rfl rfl rfl rfl rfl ?_
                    refine TL_pass rfl rfl rfl rfl rfl rfl rfl ?_
                    refine TL_pass rfl rfl rfl rfl rfl rfl rfl ?_
                    refine TL_pass rfl rfl rfl rfl rfl rfl rfl ?_
                    refine TL_pass rfl rfl rfl rfl rfl rfl rfl ?_
                    refine TL_pass rfl rfl rfl rfl rfl rfl rfl ?_
                    refine TL_pass rfl rfl rfl rfl rfl rfl rfl ?_
                    refine TL_pure rfl rfl rfl rfl (op_pick_false rfl rfl) ?_
                    refine TL_nil ?_
                    refine T_cond_false rfl ?_
                    refine T_keepH [1, 2, 6, 7, 10] [11, 654, 735] rfl rfl rfl rfl (by rw [hF]; rfl) ?_
                    refine T_exit ?_
                    obtain rfl := someI hm
                    have hn := CtlOK_out hc2
                    exact hx2 (s2.1, s2.2) hn
          · refine T_seq ?_
            refine T_region ?_
            refine TL_pure rfl rfl rfl rfl (op_lss rfl rfl) ?_
            refine TL_nil ?_
            refine T_seq ?_
            refine T_if_false rfl (decide_eq_false (by simp)) ?_
            refine T_keepH [1, 2, 6, 7] [11, 654, 735] rfl rfl rfl rfl (by rw [hF]; rfl) ?_
            refine T_exit ?_
            exact hx0 s0 hm
          · unfold m_impl_LeastCounter_L0 at hm
            refine T_seq ?_
            refine T_region ?_
            refine TL_pure rfl rfl rfl rfl (op_lss rfl rfl) ?_
            refine TL_nil ?_
            refine T_seq ?_
            refine T_if_true rfl (decide_eq_true (Int.ofNat_lt.2 hlt0)) ?_
            refine T_skip ?_
            refine T_seq ?_
            refine T_block ?_
            refine T_seq ?_
            refine T_region ?_
            refine TL_pure rfl rfl rfl rfl (op_index_ow el26 rfl rfl rfl rfl (by simpa using (List.getElem?_eq_some_iff.1 hxn0).1)) ?_
            refine TL_pure rfl rfl rfl rfl (op_loadD1 ag2 rfl rfl (hxn0) rfl rfl rfl rfl) ?_
            refine TL_pure rfl rfl rfl rfl (op_assign rfl) ?_
            refine TL_nil ?_
            refine T_region ?_
            refine TL_pure rfl rfl rfl rfl (op_move rfl) ?_
            refine TL_pure rfl rfl rfl rfl (op_move rfl) ?_
            refine TL_pure rfl rfl rfl rfl (op_move rfl) ?_
            refine TL_pure rfl rfl rfl rfl (op_negW rfl) ?_
            obtain ⟨x41, hx41, hm⟩ := bindS hm
            refine TL_pure rfl rfl rfl rfl (op_indexO el26 rfl rfl rfl hx41) ?_
            refine TL_storeT sz2 rfl rfl ((getI_spec hx41).2) (v' := (w64 (0 - p1))) rfl rfl rfl rfl rfl rfl rfl rfl rfl rfl ?_
            refine TL_nil ?_
            refine T_region ?_
            refine TL_pure rfl rfl rfl rfl (op_addN rfl rfl (Nat.lt_of_lt_of_le hlt0 hlen28)) ?_
            refine TL_pure rfl rfl rfl rfl (op_move rfl) ?_
            refine TL_nil ?_
            refine TR_keepH [1, 2, 6, 7, 31, 32, 33] [11, 654, 735] rfl rfl rfl rfl (by rw [hF]; rfl) ?_
            obtain rfl := someI hm
            have hn := CtlOK_next hc0
            exact hn _ rfl
      · refine T_drawZ [5, 6] mix (by kernel_rfl) rfl ?_
        obtain ⟨r21, hr21, hm⟩ := bindS hm
        obtain ⟨q25, hq25, hm⟩ := bindS hm
        obtain ⟨r26, hr26, hm⟩ := bindS hm
        refine TZ_pure 0 (by kernel_rfl) rfl rfl rfl rfl rfl (op_fieldAddr fa54_0 rfl rfl) ?_
        refine TZ_pure 3 (by kernel_rfl) rfl rfl rfl rfl rfl (op_fieldAddr fa54_1 rfl rfl) ?_
        refine TZ_cut 5 [true, true, true, true, false, false, false, false, false] ⟨[(0, .agg [.sl 2 (List.map a_Term p0.Facts), .int .i64 p0.Goal.Const, .sl 1 (List.map a_i64 p0.Goal.Coeffs)]), (1, .int .i64 p1), (2, .ptr 11 0 0), (4, .snil), (5, .bool false), (11, .agg [.sl 2 (List.map a_Term p0.Facts), .int .i64 p0.Goal.Const, .sl 1 (List.map a_i64 p0.Goal.Coeffs)]), (12, .bool r12), (13, .bool (!r12)), (14, .bool false), (15, .int .i64 p1), (16, .bool r16), (17, .bool (!r16)), (18, .bool (!r16)), (19, .ptr 11 0 0), (20, .sl 2 (List.map a_Term p0.Facts)), (21, .ow 977), (22, .ptr 11 0 1)], [(11, .box [.sl 2 (List.map a_Term p0.Facts), .int .i64 p0.Goal.Const, .sl 1 (List.map a_i64 p0.Goal.Coeffs)]), (977, .arr ⟨false, false⟩ 2 41 (List.map a_Term r21))]⟩ ?_ (fun hS736_0 => ?_)
        · refine TZ_one 4 (by kernel_rfl) rfl ?_
          refine TL_pure rfl rfl rfl rfl (op_load_agg ag41 sz41 rfl rfl rfl) ?_
          refine TL_nil ?_
          refine TZ_one 5 (by kernel_rfl) rfl ?_
          refine TL_buildSlice 1217 (es := List.map a_Term [p0.Goal]) el24 z41 rfl rfl rfl rfl rfl rfl rfl rfl rfl ?_
          refine TL_nil ?_
          refine TZ_one 6 (by kernel_rfl) rfl ?_
          refine TL_appendT (f := a_Term) (a := r21) (b := [p0.Goal]) el24 z41 rfl rfl rfl rfl rfl rfl rfl (capI_spec hq25) rfl rfl rfl rfl rfl ?_
          refine TL_nil ?_
          refine TZ_one 7 (by kernel_rfl) rfl ?_
          refine TL_callO [(1000, 1377)] (ACall.F (F := F) (c_impl_symbolsOf (r21 ++ [p0.Goal]) r26 hr26)) Try.call64 rfl rfl rfl rfl rfl rfl rfl rfl rfl rfl rfl rfl rfl ?_
          refine TL_nil ?_
          refine TZ_pure 8 (by kernel_rfl) rfl rfl rfl rfl rfl (op_assign rfl) ?_
          refine TZ_done (by kernel_rfl) ?_
          refine T_keepH [1, 2, 6] [11, 1377] rfl rfl rfl rfl (by rw [hF]; rfl) ?_
          refine T_ren [(11, 11), (1377, 654)] rfl rfl rfl (by rw [hF]; rfl) ?_
          exact hj0 r26 hm
        refine TZ_cut 4 [true, true, true, true, true, false, false, false, false] ⟨[(0, .agg [.sl 2 (List.map a_Term p0.Facts), .int .i64 p0.Goal.Const, .sl 1 (List.map a_i64 p0.Goal.Coeffs)]), (1, .int .i64 p1), (2, .ptr 11 0 0), (4, .snil), (5, .bool false), (11, .agg [.sl 2 (List.map a_Term p0.Facts), .int .i64 p0.Goal.Const, .sl 1 (List.map a_i64 p0.Goal.Coeffs)]), (12, .bool r12), (13, .bool (!r12)), (14, .bool false), (15, .int .i64 p1), (16, .bool r16), (17, .bool (!r16)), (18, .bool (!r16)), (19, .ptr 11 0 0), (20, .sl 2 (List.map a_Term p0.Facts)), (21, .ow 977), (22, .ptr 11 0 1), (23, .agg [.int .i64 p0.Goal.Const, .sl 1 (List.map a_i64 p0.Goal.Coeffs)])], [(11, .box [.sl 2 (List.map a_Term p0.Facts), .int .i64 p0.Goal.Const, .sl 1 (List.map a_i64 p0.Goal.Coeffs)]), (977, .arr ⟨false, false⟩ 2 41 (List.map a_Term r21))]⟩ ?_ (fun hS736_1 => ?_)
        · refine TZ_one 5 (by kernel_rfl) rfl ?_
          refine TL_buildSlice 1217 (es := List.map a_Term [p0.Goal]) el24 z41 rfl rfl rfl rfl rfl rfl rfl rfl rfl ?_
          refine TL_nil ?_
          refine TZ_one 6 (by kernel_rfl) rfl ?_
          refine TL_appendT (f := a_Term) (a := r21) (b := [p0.Goal]) el24 z41 rfl rfl rfl rfl rfl rfl rfl (capI_spec hq25) rfl rfl rfl rfl rfl ?_
          refine TL_nil ?_
          refine TZ_one 7 (by kernel_rfl) rfl ?_
          refine TL_callO [(1000, 1377)] (ACall.F (F := F) (c_impl_symbolsOf (r21 ++ [p0.Goal]) r26 hr26)) Try.call64 rfl rfl rfl rfl rfl rfl rfl rfl rfl rfl rfl rfl rfl ?_
          refine TL_nil ?_
          refine TZ_pure 8 (by kernel_rfl) rfl rfl rfl rfl rfl (op_assign rfl) ?_
          refine TZ_done (by kernel_rfl) ?_
          refine T_keepH [1, 2, 6] [11, 1377] rfl rfl rfl rfl (by rw [hF]; rfl) ?_
          refine T_ren [(11, 11), (1377, 654)] rfl rfl rfl (by rw [hF]; rfl) ?_
          exact hj0 r26 hm
        refine TZ_cut 4 [true, true, false, true, true, true, false, false, false] ⟨[(0, .agg [.sl 2 (List.map a_Term p0.Facts), .int .i64 p0.Goal.Const, .sl 1 (List.map a_i64 p0.Goal.Coeffs)]), (1, .int .i64 p1), (2, .ptr 11 0 0), (4, .snil), (5, .bool false), (11, .agg [.sl 2 (List.map a_Term p0.Facts), .int .i64 p0.Goal.Const, .sl 1 (List.map a_i64 p0.Goal.Coeffs)]), (12, .bool r12), (13, .bool (!r12)), (14, .bool false), (15, .int .i64 p1), (16, .bool r16), (17, .bool (!r16)), (18, .bool (!r16)), (19, .ptr 11 0 0), (20, .sl 2 (List.map a_Term p0.Facts)), (22, .ptr 11 0 1), (23, .agg [.int .i64 p0.Goal.Const, .sl 1 (List.map a_i64 p0.Goal.Coeffs)]), (24, .ow 1217)], [(11, .box [.sl 2 (List.map a_Term p0.Facts), .int .i64 p0.Goal.Const, .sl 1 (List.map a_i64 p0.Goal.Coeffs)]), (1217, .arr ⟨false, false⟩ 2 41 (List.map a_Term [p0.Goal]))]⟩ ?_ (fun hS736_2 => ?_)
        · refine TZ_one 2 (by kernel_rfl) rfl ?_
          refine TLE_call [] [(1000, 977)] [] (ACall.F (F := F) (c_slices_Clone_impl_Term_impl_Term p0.Facts r21 hr21)) (fun _ => rfl) Try.call88 rfl rfl rfl rfl rfl trivial rfl rfl rfl rfl rfl rfl rfl rfl rfl rfl rfl ?_
          refine TL_nil ?_
          refine TZ_one 6 (by kernel_rfl) rfl ?_
          refine TL_appendT (f := a_Term) (a := r21) (b := [p0.Goal]) el24 z41 rfl rfl rfl rfl rfl rfl rfl (capI_spec hq25) rfl rfl rfl rfl rfl ?_
          refine TL_nil ?_
          refine TZ_one 7 (by kernel_rfl) rfl ?_
          refine TL_callO [(1000, 1377)] (ACall.F (F := F) (c_impl_symbolsOf (r21 ++ [p0.Goal]) r26 hr26)) Try.call64 rfl rfl rfl rfl rfl rfl rfl rfl rfl rfl rfl rfl rfl ?_
          refine TL_nil ?_
          refine TZ_pure 8 (by kernel_rfl) rfl rfl rfl rfl rfl (op_assign rfl) ?_
          refine TZ_done (by kernel_rfl) ?_
          refine T_keepH [1, 2, 6] [11, 1377] rfl rfl rfl rfl (by rw [hF]; rfl) ?_
          refine T_ren [(11, 11), (1377, 654)] rfl rfl rfl (by rw [hF]; rfl) ?_
          exact hj0 r26 hm
        refine TZ_cut 5 [true, true, false, true, true, false, false, false, false] ⟨[(0, .agg [.sl 2 (List.map a_Term p0.Facts), .int .i64 p0.Goal.Const, .sl 1 (List.map a_i64 p0.Goal.Coeffs)]), (1, .int .i64 p1), (2, .ptr 11 0 0), (4, .snil), (5, .bool false), (11, .agg [.sl 2 (List.map a_Term p0.Facts), .int .i64 p0.Goal.Const, .sl 1 (List.map a_i64 p0.Goal.Coeffs)]), (12, .bool r12), (13, .bool (!r12)), (14, .bool false), (15, .int .i64 p1), (16, .bool r16), (17, .bool (!r16)), (18, .bool (!r16)), (19, .ptr 11 0 0), (20, .sl 2 (List.map a_Term p0.Facts)), (22, .ptr 11 0 1), (23, .agg [.int .i64 p0.Goal.Const, .sl 1 (List.map a_i64 p0.Goal.Coeffs)])], [(11, .box [.sl 2 (List.map a_Term p0.Facts), .int .i64 p0.Goal.Const, .sl 1 (List.map a_i64 p0.Goal.Coeffs)])]⟩ ?_ (fun hS736_3 => ?_)
        · refine TZ_each [2, 5] (by kernel_rfl) rfl ?_
          refine ⟨?_, ?_⟩
          · refine ⟨_, rfl, ?_⟩
            refine TLE_call [] [(1000, 977)] [] (ACall.F (F := F) (c_slices_Clone_impl_Term_impl_Term p0.Facts r21 hr21)) (fun _ => rfl) Try.call88 rfl rfl rfl rfl rfl trivial rfl rfl rfl rfl rfl rfl rfl rfl rfl rfl rfl ?_
            refine TL_nil ?_
            refine TZ_keepH [0, 1, 2, 4, 5, 11, 12, 13, 14, 15, 16, 17, 18, 19, 20, 21, 22, 23] [11, 977] rfl rfl rfl rfl (by rw [hF]; rfl) ?_
            exact hS736_1
          · refine ⟨_, rfl, ?_⟩
            refine TL_buildSlice 1217 (es := List.map a_Term [p0.Goal]) el24 z41 rfl rfl rfl rfl rfl rfl rfl rfl rfl ?_
            refine TL_nil ?_
            refine TZ_keepH [0, 1, 2, 4, 5, 11, 12, 13, 14, 15, 16, 17, 18, 19, 20, 22, 23, 24] [11, 1217] rfl rfl rfl rfl (by rw [hF]; rfl) ?_
            exact hS736_2
        refine TZ_cut 6 [true, true, false, true, false, false, false, false, false] ⟨[(0, .agg [.sl 2 (List.map a_Term p0.Facts), .int .i64 p0.Goal.Const, .sl 1 (List.map a_i64 p0.Goal.Coeffs)]), (1, .int .i64 p1), (2, .ptr 11 0 0), (4, .snil), (5, .bool false), (11, .agg [.sl 2 (List.map a_Term p0.Facts), .int .i64 p0.Goal.Const, .sl 1 (List.map a_i64 p0.Goal.Coeffs)]), (12, .bool r12), (13, .bool (!r12)), (14, .bool false), (15, .int .i64 p1), (16, .bool r16), (17, .bool (!r16)), (18, .bool (!r16)), (19, .ptr 11 0 0), (20, .sl 2 (List.map a_Term p0.Facts)), (22, .ptr 11 0 1)], [(11, .box [.sl 2 (List.map a_Term p0.Facts), .int .i64 p0.Goal.Const, .sl 1 (List.map a_i64 p0.Goal.Coeffs)])]⟩ ?_ (fun hS736_4 => ?_)
        · refine TZ_each [2, 4] (by kernel_rfl) rfl ?_
          refine ⟨?_, ?_⟩
          · refine ⟨_, rfl, ?_⟩
            refine TLE_call [] [(1000, 977)] [] (ACall.F (F := F) (c_slices_Clone_impl_Term_impl_Term p0.Facts r21 hr21)) (fun _ => rfl) Try.call88 rfl rfl rfl rfl rfl trivial rfl rfl rfl rfl rfl rfl rfl rfl rfl rfl rfl ?_
            refine TL_nil ?_
            refine TZ_keepH [0, 1, 2, 4, 5, 11, 12, 13, 14, 15, 16, 17, 18, 19, 20, 21, 22] [11, 977] rfl rfl rfl rfl (by rw [hF]; rfl) ?_
            exact hS736_0
          · refine ⟨_, rfl, ?_⟩
            refine TL_pure rfl rfl rfl rfl (op_load_agg ag41 sz41 rfl rfl rfl) ?_
            refine TL_nil ?_
            refine TZ_keepH [0, 1, 2, 4, 5, 11, 12, 13, 14, 15, 16, 17, 18, 19, 20, 22, 23] [11] rfl rfl rfl rfl (by rw [hF]; rfl) ?_
            exact hS736_3
        refine TZ_cut 5 [true, false, false, true, true, true, false, false, false] ⟨[(0, .agg [.sl 2 (List.map a_Term p0.Facts), .int .i64 p0.Goal.Const, .sl 1 (List.map a_i64 p0.Goal.Coeffs)]), (1, .int .i64 p1), (2, .ptr 11 0 0), (4, .snil), (5, .bool false), (11, .agg [.sl 2 (List.map a_Term p0.Facts), .int .i64 p0.Goal.Const, .sl 1 (List.map a_i64 p0.Goal.Coeffs)]), (12, .bool r12), (13, .bool (!r12)), (14, .bool false), (15, .int .i64 p1), (16, .bool r16), (17, .bool (!r16)), (18, .bool (!r16)), (19, .ptr 11 0 0), (22, .ptr 11 0 1), (23, .agg [.int .i64 p0.Goal.Const, .sl 1 (List.map a_i64 p0.Goal.Coeffs)]), (24, .ow 1217)], [(11, .box [.sl 2 (List.map a_Term p0.Facts), .int .i64 p0.Goal.Const, .sl 1 (List.map a_i64 p0.Goal.Coeffs)]), (1217, .arr ⟨false, false⟩ 2 41 (List.map a_Term [p0.Goal]))]⟩ ?_ (fun hS736_5 => ?_)
        · refine TZ_one 1 (by kernel_rfl) rfl ?_
          refine TL_pure rfl rfl rfl rfl (op_load_one ag24 rfl rfl) ?_
          refine TL_nil ?_
          refine TZ_one 2 (by kernel_rfl) rfl ?_
          refine TLE_call [] [(1000, 977)] [] (ACall.F (F := F) (c_slices_Clone_impl_Term_impl_Term p0.Facts r21 hr21)) (fun _ => rfl) Try.call88 rfl rfl rfl rfl rfl trivial rfl rfl rfl rfl rfl rfl rfl rfl rfl rfl rfl ?_
          refine TL_nil ?_
          refine TZ_one 6 (by kernel_rfl) rfl ?_
          refine TL_appendT (f := a_Term) (a := r21) (b := [p0.Goal]) el24 z41 rfl rfl rfl rfl rfl rfl rfl (capI_spec hq25) rfl rfl rfl rfl rfl ?_
          refine TL_nil ?_
          refine TZ_one 7 (by kernel_rfl) rfl ?_
          refine TL_callO [(1000, 1377)] (ACall.F (F := F) (c_impl_symbolsOf (r21 ++ [p0.Goal]) r26 hr26)) Try.call64 rfl rfl rfl rfl rfl rfl rfl rfl rfl rfl rfl rfl rfl ?_
          refine TL_nil ?_
          refine TZ_pure 8 (by kernel_rfl) rfl rfl rfl rfl rfl (op_assign rfl) ?_
          refine TZ_done (by kernel_rfl) ?_
          refine T_keepH [1, 2, 6] [11, 1377] rfl rfl rfl rfl (by rw [hF]; rfl) ?_
          refine T_ren [(11, 11), (1377, 654)] rfl rfl rfl (by rw [hF]; rfl) ?_
          exact hj0 r26 hm
        refine TZ_cut 6 [true, false, false, true, true, false, false, false, false] ⟨[(0, .agg [.sl 2 (List.map a_Term p0.Facts), .int .i64 p0.Goal.Const, .sl 1 (List.map a_i64 p0.Goal.Coeffs)]), (1, .int .i64 p1), (2, .ptr 11 0 0), (4, .snil), (5, .bool false), (11, .agg [.sl 2 (List.map a_Term p0.Facts), .int .i64 p0.Goal.Const, .sl 1 (List.map a_i64 p0.Goal.Coeffs)]), (12, .bool r12), (13, .bool (!r12)), (14, .bool false), (15, .int .i64 p1), (16, .bool r16), (17, .bool (!r16)), (18, .bool (!r16)), (19, .ptr 11 0 0), (22, .ptr 11 0 1), (23, .agg [.int .i64 p0.Goal.Const, .sl 1 (List.map a_i64 p0.Goal.Coeffs)])], [(11, .box [.sl 2 (List.map a_Term p0.Facts), .int .i64 p0.Goal.Const, .sl 1 (List.map a_i64 p0.Goal.Coeffs)])]⟩ ?_ (fun hS736_6 => ?_)
        · refine TZ_each [1, 5] (by kernel_rfl) rfl ?_
          refine ⟨?_, ?_⟩
          · refine ⟨_, rfl, ?_⟩
            refine TL_pure rfl rfl rfl rfl (op_load_one ag24 rfl rfl) ?_
            refine TL_nil ?_
            refine TZ_keepH [0, 1, 2, 4, 5, 11, 12, 13, 14, 15, 16, 17, 18, 19, 20, 22, 23] [11] rfl rfl rfl rfl (by rw [hF]; rfl) ?_
            exact hS736_3
          · refine ⟨_, rfl, ?_⟩
            refine TL_buildSlice 1217 (es := List.map a_Term [p0.Goal]) el24 z41 rfl rfl rfl rfl rfl rfl rfl rfl rfl ?_
            refine TL_nil ?_
            refine TZ_keepH [0, 1, 2, 4, 5, 11, 12, 13, 14, 15, 16, 17, 18, 19, 22, 23, 24] [11, 1217] rfl rfl rfl rfl (by rw [hF]; rfl) ?_
            exact hS736_5
        refine TZ_each [1, 4] (by kernel_rfl) rfl ?_
        refine ⟨?_, ?_⟩
        · refine ⟨_, rfl, ?_⟩
          refine TL_pure rfl rfl rfl rfl (op_load_one ag24 rfl rfl) ?_
          refine TL_nil ?_
          refine TZ_keepH [0, 1, 2, 4, 5, 11, 12, 13, 14, 15, 16, 17, 18, 19, 20, 22] [11] rfl rfl rfl rfl (by rw [hF]; rfl) ?_
          exact hS736_4
        · refine ⟨_, rfl, ?_⟩
          refine TL_pure rfl rfl rfl rfl (op_load_agg ag41 sz41 rfl rfl rfl) ?_
          refine TL_nil ?_
          refine TZ_keepH [0, 1, 2, 4, 5, 11, 12, 13, 14, 15, 16, 17, 18, 19, 22, 23] [11] rfl rfl rfl rfl (by rw [hF]; rfl) ?_
          exact hS736_6
theorem c_impl_isBudget (p0 : Int) (out : Bool) (hm : m_impl_isBudget p0 = some out) : ACall Try.prog 89 [.int .i64 p0] [] (.bool out) [] := by
  refine ACall.intro Try.func89 rfl Try.ntmps89 rfl (fun F hF => ?_)
  unfold m_impl_isBudget at hm
  refine T_seq ?_
  refine T_region ?_
  refine TL_pure rfl rfl rfl rfl (op_assign rfl) ?_
  refine TL_nil ?_
  refine T_seq ?_
  refine T_region ?_
  refine TL_pure rfl rfl rfl rfl (op_move rfl) ?_
  obtain ⟨r4, hr4, hm⟩ := bindS hm
  refine TL_callF (ACall.F (F := F) (c_impl_within p0 (1 : Int) (60 : Int) r4 hr4)) Try.call87 rfl rfl rfl rfl rfl ?_
  refine TL_pure rfl rfl rfl rfl (op_assign rfl) ?_
  refine TL_nil ?_
  refine T_keepH [2] [] rfl rfl rfl rfl (by rw [hF]; rfl) ?_
  refine T_ret ?_
  obtain rfl := someI hm
  refine ⟨[_], [], ⟨rfl, trivial⟩, ?_, rfl, rfl, rfl, rfl⟩
  rfl
theorem c_impl_absolute (p0 : Int) (out : Int) (hm : m_impl_absolute p0 = some out) : ACall Try.prog 124 [.int .i64 p0] [] (.int .i64 out) [] := by
  refine ACall.intro Try.func124 rfl Try.ntmps124 rfl (fun F hF => ?_)
  unfold m_impl_absolute at hm
  refine T_seq ?_
  refine T_region ?_
  refine TL_pure rfl rfl rfl rfl (op_assign rfl) ?_
  refine TL_nil ?_
  refine T_seq ?_
  refine T_region ?_
  refine TL_pure rfl rfl rfl rfl (op_move rfl) ?_
  refine TL_pure rfl rfl rfl rfl (op_move rfl) ?_
  refine TL_pure rfl rfl rfl rfl (op_negW rfl) ?_
  refine TL_pure rfl rfl rfl rfl (op_max rfl rfl) ?_
  refine TL_pure rfl rfl rfl rfl (op_assign rfl) ?_
  refine TL_nil ?_
  refine T_keepH [2] [] rfl rfl rfl rfl (by rw [hF]; rfl) ?_
  refine T_ret ?_
  obtain rfl := someI hm
  refine ⟨[_], [], ⟨rfl, trivial⟩, ?_, rfl, rfl, rfl, rfl⟩
  rfl
theorem c_impl_gcd (p0 : List Int) (out : Int) (hm : m_impl_gcd p0 = some out) : ACall Try.prog 115 [.sl 1 (List.map a_i64 p0)] [] (.int .i64 out) [] := by
  refine ACall.intro Try.func115 rfl Try.ntmps115 rfl (fun F hF => ?_)
  unfold m_impl_gcd at hm
  refine T_seq ?_
  refine T_region ?_
  refine TL_pure rfl rfl rfl rfl (op_assign rfl) ?_
  refine TL_nil ?_
  refine T_seq ?_
  refine T_region ?_
  refine TL_pure rfl rfl rfl rfl (op_assign rfl) ?_
  refine TL_nil ?_
  refine T_seq ?_
  refine T_seq ?_
  refine T_region ?_
  refine TL_pure rfl rfl rfl rfl (op_move rfl) ?_
  refine TL_pure rfl rfl rfl rfl (op_lenT Try.underlying26 rfl (List.length_map _)) ?_
  refine TL_fact (fun _ _ _ hr => RelP.slLen (i := 8) rfl hr) (fun hlen9 => ?_)
  rw [List.length_map] at hlen9
  refine TL_pure rfl rfl rfl rfl (op_move rfl) ?_
  refine TL_nil ?_
  refine T_block ?_
  refine T_keepH [3, 8, 9, 10] [] rfl rfl rfl rfl (by rw [hF]; rfl) ?_
  refine T_loop ?_
  obtain ⟨u0, hl0, hm⟩ := bindS hm
  refine TR_forL2 p0 (m_impl_gcd_L0) (fun (s0 : Int) => s0) (fun n0 (s0 : Int) => ⟨[(3, .int .i64 s0), (8, .sl 1 (List.map a_i64 p0)), (9, .int .i64 (p0.length : Int)), (10, .int .i64 (n0 : Int))], []⟩) (fun u0 => .exit 0) (fun u0 => ⟨[(3, .int .i64 u0)], []⟩) (fun u0 => m_impl_gcd_A0 u0 = some out) hl0 hm (fun u0 hm => ?_) (fun hx0 s0 hm => ?_) (fun hx0 n0 x0 s0 c0 hxn0 hlt0 hm hc0 => ?_)
  · unfold m_impl_gcd_A0 at hm
    refine T_seq ?_
    refine T_region ?_
    refine TL_pure rfl rfl rfl rfl (op_move rfl) ?_
    refine TL_pure rfl rfl rfl rfl (op_assign rfl) ?_
    refine TL_nil ?_
    refine T_keepH [2] [] rfl rfl rfl rfl (by rw [hF]; rfl) ?_
    refine T_ret ?_
    obtain rfl := someI hm
    refine ⟨[_], [], ⟨rfl, trivial⟩, ?_, rfl, rfl, rfl, rfl⟩
    rfl
  · refine T_seq ?_
    refine T_region ?_
    refine TL_pure rfl rfl rfl rfl (op_lss rfl rfl) ?_
    refine TL_nil ?_
    refine T_seq ?_
    refine T_if_false rfl (decide_eq_false (by simp)) ?_
    refine T_keepH [3] [] rfl rfl rfl rfl (by rw [hF]; rfl) ?_
    refine T_exit ?_
    exact hx0 s0 hm
  · unfold m_impl_gcd_L0 at hm
    refine T_seq ?_
    refine T_region ?_
    refine TL_pure rfl rfl rfl rfl (op_lss rfl rfl) ?_
    refine TL_nil ?_
    refine T_seq ?_
    refine T_if_true rfl (decide_eq_true (Int.ofNat_lt.2 hlt0)) ?_
    refine T_skip ?_
    refine T_seq ?_
    refine T_block ?_
    refine T_seq ?_
    refine T_region ?_
    refine TL_pure rfl rfl rfl rfl (op_index_sl el26 rfl rfl rfl (get_map hxn0) rfl) ?_
    refine TL_pure rfl rfl rfl rfl (op_load_one ag2 rfl rfl) ?_
    refine TL_pure rfl rfl rfl rfl (op_assign rfl) ?_
    refine TL_nil ?_
    refine T_seq ?_
    refine T_region ?_
    refine TL_pure rfl rfl rfl rfl (op_move rfl) ?_
    refine TL_pure rfl rfl rfl rfl (op_move rfl) ?_
    obtain ⟨r16, hr16, hm⟩ := bindS hm
    refine TL_callF (ACall.F (F := F) (c_impl_absolute x0 r16 hr16)) Try.call124 rfl rfl rfl rfl rfl ?_
    refine TL_pure rfl rfl rfl rfl (op_assign rfl) ?_
    refine TL_pure rfl rfl rfl rfl (op_assign rfl) ?_
    refine TL_nil ?_
    refine T_seq ?_
    refine T_block ?_
    refine T_keepH [6, 7, 8, 9, 10] [] rfl rfl rfl rfl (by rw [hF]; rfl) ?_
    refine T_loop ?_
    obtain ⟨u1, hl1, hm⟩ := bindS hm
    refine TR_iter2 (m_impl_gcd_L1) (fun (s1 : Int × Int) => ⟨[(6, .int .i64 s1.1), (7, .int .i64 s1.2), (8, .sl 1 (List.map a_i64 p0)), (9, .int .i64 (p0.length : Int)), (10, .int .i64 (n0 : Int))], []⟩) (fun u1 => .exit 2) (fun u1 => ⟨[(6, .int .i64 u1), (8, .sl 1 (List.map a_i64 p0)), (9, .int .i64 (p0.length : Int)), (10, .int .i64 (n0 : Int))], []⟩) (fun u1 => m_impl_gcd_A1 u1 = some c0) hl1 hm (fun u1 hm => ?_) (fun hx1 s1 c1 hm hc1 => ?_)
    · unfold m_impl_gcd_A1 at hm
      refine T_region ?_
      refine TL_pure rfl rfl rfl rfl (op_move rfl) ?_
      refine TL_pure rfl rfl rfl rfl (op_assign rfl) ?_
      refine TL_nil ?_
      refine T_region ?_
      refine TL_pure rfl rfl rfl rfl (op_addN rfl rfl (Nat.lt_of_lt_of_le hlt0 hlen9)) ?_
      refine TL_pure rfl rfl rfl rfl (op_move rfl) ?_
      refine TL_nil ?_
      refine TR_keepH [3, 8, 9, 10] [] rfl rfl rfl rfl (by rw [hF]; rfl) ?_
      obtain rfl := someI hm
      have hn := CtlOK_next hc0
      exact hn _ rfl
    · unfold m_impl_gcd_L1 at hm
      refine T_seq ?_
      refine T_seq ?_
      refine T_region ?_
      refine TL_pure rfl rfl rfl rfl (op_move rfl) ?_
      refine TL_pure rfl rfl rfl rfl (op_neq rfl rfl) ?_
      refine TL_nil ?_
      refine T_cond rfl (fun hq => ?_) (fun hq => ?_)
      · replace hm := condT hq hm
        refine T_skip ?_
        refine T_block ?_
        refine T_drawZ [] mix (by kernel_rfl) rfl ?_
        obtain ⟨q22, hq22, hm⟩ := bindS hm
        refine TZ_pure 0 (by kernel_rfl) rfl rfl rfl rfl rfl (op_move rfl) ?_
        refine TZ_pure 1 (by kernel_rfl) rfl rfl rfl rfl rfl (op_move rfl) ?_
        refine TZ_pure 2 (by kernel_rfl) rfl rfl rfl rfl rfl (op_move rfl) ?_
        refine TZ_pure 3 (by kernel_rfl) rfl rfl rfl rfl rfl (op_remT rfl rfl hq22) ?_
        refine TZ_pure 4 (by kernel_rfl) rfl rfl rfl rfl rfl (op_assign rfl) ?_
        refine TZ_pure 5 (by kernel_rfl) rfl rfl rfl rfl rfl (op_assign rfl) ?_
        refine TZ_done (by kernel_rfl) ?_
        refine TR_keepH [6, 7, 8, 9, 10] [] rfl rfl rfl rfl (by rw [hF]; rfl) ?_
        obtain rfl := someI hm
        have hn := CtlOK_next hc1
        exact hn _ rfl
      · replace hm := condF hq hm
        refine T_keepH [6, 8, 9, 10] [] rfl rfl rfl rfl (by rw [hF]; rfl) ?_
        refine T_exit ?_
        obtain rfl := someI hm
        have hn := CtlOK_out hc1
        exact hx1 s1.1 hn
theorem c_impl_divFloor (p0 : Int) (p1 : Int) (out : Int) (hm : m_impl_divFloor p0 p1 = some out) : ACall Try.prog 73 [.int .i64 p0, .int .i64 p1] [] (.int .i64 out) [] := by
  refine ACall.intro Try.func73 rfl Try.ntmps73 rfl (fun F hF => ?_)
  unfold m_impl_divFloor at hm
  refine T_seq ?_
  refine T_region ?_
  refine TL_pure rfl rfl rfl rfl (op_assign rfl) ?_
  refine TL_nil ?_
  refine T_seq ?_
  refine T_region ?_
  refine TL_pure rfl rfl rfl rfl (op_move rfl) ?_
  refine TL_pure rfl rfl rfl rfl (op_move rfl) ?_
  obtain ⟨q8, hq8, hm⟩ := bindS hm
  refine TL_pure rfl rfl rfl rfl (op_quoT rfl rfl hq8) ?_
  refine TL_pure rfl rfl rfl rfl (op_assign rfl) ?_
  refine TL_nil ?_
  refine T_seq ?_
  refine T_seq ?_
  refine T_region ?_
  refine TL_pure rfl rfl rfl rfl (op_move rfl) ?_
  refine TL_pure rfl rfl rfl rfl (op_move rfl) ?_
  obtain ⟨q11, hq11, hm⟩ := bindS hm
  refine TL_pure rfl rfl rfl rfl (op_remT rfl rfl hq11) ?_
  refine TL_pure rfl rfl rfl rfl (op_lss rfl rfl) ?_
  refine TL_nil ?_
  refine T_cond rfl (fun hq => ?_) (fun hq => ?_)
  · replace hm := condT hq hm
    refine T_region ?_
    refine TL_pure rfl rfl rfl rfl (op_move rfl) ?_
    refine TL_pure rfl rfl rfl rfl (op_subW rfl rfl) ?_
    refine TL_pure rfl rfl rfl rfl (op_assign rfl) ?_
    refine TL_nil ?_
    refine T_seq ?_
    refine T_region ?_
    refine TL_pure rfl rfl rfl rfl (op_move rfl) ?_
    refine TL_pure rfl rfl rfl rfl (op_assign rfl) ?_
    refine TL_nil ?_
    refine T_keepH [4] [] rfl rfl rfl rfl (by rw [hF]; rfl) ?_
    refine T_ret ?_
    obtain rfl := someI hm
    refine ⟨[_], [], ⟨rfl, trivial⟩, ?_, rfl, rfl, rfl, rfl⟩
    rfl
  · replace hm := condF hq hm
    refine T_skip ?_
    refine T_seq ?_
    refine T_region ?_
    refine TL_pure rfl rfl rfl rfl (op_move rfl) ?_
    refine TL_pure rfl rfl rfl rfl (op_assign rfl) ?_
    refine TL_nil ?_
    refine T_keepH [4] [] rfl rfl rfl rfl (by rw [hF]; rfl) ?_
    refine T_ret ?_
    obtain rfl := someI hm
    refine ⟨[_], [], ⟨rfl, trivial⟩, ?_, rfl, rfl, rfl, rfl⟩
    rfl
theorem c_impl_Term_tightened (p0 : Term) (out : Term × Bool) (hm : m_impl_Term_tightened p0 = some out) : ACall Try.prog 122 [.agg [.int .i64 p0.Const, .sl 1 (List.map a_i64 p0.Coeffs)]] [] (.tup [.agg [.int .i64 out.1.Const, .ow 1000], .bool out.2]) [(1000, .arr ⟨false, true⟩ 1 2 (List.map a_i64 out.1.Coeffs))] := by
  refine ACall.intro Try.func122 rfl Try.ntmps122 rfl (fun F hF => ?_)
  unfold m_impl_Term_tightened at hm
  refine T_seq ?_
  refine T_region ?_
  refine TL_box 11 rfl rfl rfl rfl rfl rfl rfl ?_
  refine TL_alloc 12 z41 rfl rfl rfl rfl rfl rfl rfl ?_
  refine TL_pure rfl rfl rfl rfl (op_assign rfl) ?_
  refine TL_nil ?_
  refine T_seq ?_
  refine T_region ?_
  refine TL_pure rfl rfl rfl rfl (op_fieldAddr fa41_1 rfl rfl) ?_
  refine TL_pure rfl rfl rfl rfl (op_load_one ag26 rfl rfl) ?_
  obtain ⟨r9, hr9, hm⟩ := bindS hm
  refine TL_callF (ACall.F (F := F) (c_impl_gcd p0.Coeffs r9 hr9)) Try.call115 rfl rfl rfl rfl rfl ?_
  refine TL_pure rfl rfl rfl rfl (op_assign rfl) ?_
  refine TL_nil ?_
  refine T_seq ?_
  refine T_seq ?_
  refine T_region ?_
  refine TL_pure rfl rfl rfl rfl (op_move rfl) ?_
  refine TL_pure rfl rfl rfl rfl (op_leq rfl rfl) ?_
  refine TL_nil ?_
  refine T_cond rfl (fun hq => ?_) (fun hq => ?_)
  · replace hm := condT hq hm
    refine T_seq ?_
    refine T_region ?_
    refine TL_pure rfl rfl rfl rfl (op_buildP pl41 z41 rfl rfl rfl rfl rfl) ?_
    refine TL_store_box sz41 rfl rfl rfl rfl rfl rfl rfl rfl rfl ?_
    refine TL_pure rfl rfl rfl rfl (op_assign rfl) ?_
    refine TL_nil ?_
    refine T_ownNilBox 12 1 13 ⟨false, true⟩ 2 rfl rfl rfl (sz := 1) rfl rfl rfl rfl ?_
    refine T_keepH [2, 3] [12, 13] rfl rfl rfl rfl (by rw [hF]; rfl) ?_
    refine T_ren [(12, 12), (13, 1000)] rfl rfl rfl (by rw [hF]; rfl) ?_
    refine T_ret ?_
    obtain rfl := someI hm
    refine ⟨[_, _], [1000], ⟨⟨_, _, rfl, rfl, .inr ⟨ag41, _, _, sz41, rfl, rfl⟩⟩, rfl, trivial⟩, ?_, rfl, rfl, rfl, rfl⟩
    rfl
  · replace hm := condF hq hm
    refine T_skip ?_
    refine T_seq ?_
    refine T_region ?_
    refine TL_pure rfl rfl rfl rfl (op_load_agg ag41 sz41 rfl rfl rfl) ?_
    obtain ⟨r14, hr14, hm⟩ := bindS hm
    refine TL_callO [(1000, 14)] (ACall.F (F := F) (c_impl_Term_own p0 r14 hr14)) Try.call63 rfl rfl rfl rfl rfl rfl rfl rfl rfl rfl rfl rfl rfl ?_
    refine TL_alloc 15 z41 rfl rfl rfl rfl rfl rfl rfl ?_
    refine TL_store_box sz41 rfl rfl rfl rfl rfl rfl rfl rfl rfl ?_
    refine TL_nil ?_
    refine T_seq ?_
    refine T_region ?_
    refine TL_pure rfl rfl rfl rfl (op_fieldAddr fa41_0 rfl rfl) ?_
    refine TL_pure rfl rfl rfl rfl (op_load_one ag2 rfl rfl) ?_
    refine TL_pure rfl rfl rfl rfl (op_move rfl) ?_
    obtain ⟨r18, hr18, hm⟩ := bindS hm
    refine TL_callF (ACall.F (F := F) (c_impl_divFloor p0.Const r9 r18 hr18)) Try.call73 rfl rfl rfl rfl rfl ?_
    refine TL_pure rfl rfl rfl rfl (op_fieldAddr fa41_0 rfl rfl) ?_
    refine TL_store_box sz2 rfl rfl rfl rfl rfl rfl rfl rfl rfl ?_
    refine TL_nil ?_
    refine T_seq ?_
    refine T_seq ?_
    refine T_region ?_
    refine TL_pure rfl rfl rfl rfl (op_fieldAddr fa41_1 rfl rfl) ?_
    refine TL_pure rfl rfl rfl rfl (op_load_one ag26 rfl rfl) ?_
    refine TL_pure rfl rfl rfl rfl (op_lenO Try.underlying26 rfl rfl (List.length_map _)) ?_
    refine TL_fact (fun _ _ _ hr => RelP.owLen (id := 14) rfl hr) (fun hlen22 => ?_)
    rw [List.length_map] at hlen22
    refine TL_pure rfl rfl rfl rfl (op_move rfl) ?_
    refine TL_nil ?_
    refine T_block ?_
    refine T_keepH [2, 4, 5, 22, 23] [12, 14, 15] rfl rfl rfl rfl (by rw [hF]; rfl) ?_
    refine T_loop ?_
    obtain ⟨u0, hl0, hm⟩ := bindS hm
    refine TR_iter2 (m_impl_Term_tightened_L0 r9 r14) (fun (s0 : (List Int) × Int) => ⟨[(2, .ptr 12 0 0), (4, .int .i64 r9), (5, .ptr 15 0 0), (22, .int .i64 (r14.Coeffs.length : Int)), (23, .int .i64 s0.2)], [(12, .box [.int .i64 (0 : Int), .snil]), (14, .arr ⟨false, true⟩ 1 2 (List.map a_i64 s0.1)), (15, .box [.int .i64 r18, .ow 14])]⟩) (fun u0 => .exit 0) (fun u0 => ⟨[(2, .ptr 12 0 0), (5, .ptr 15 0 0)], [(12, .box [.int .i64 (0 : Int), .snil]), (14, .arr ⟨false, true⟩ 1 2 (List.map a_i64 u0)), (15, .box [.int .i64 r18, .ow 14])]⟩) (fun u0 => m_impl_Term_tightened_A0 r18 u0 = some out) hl0 hm (fun u0 hm => ?_) (fun hx0 s0 c0 hm hc0 => ?_)
    · unfold m_impl_Term_tightened_A0 at hm
      refine T_seq ?_
      refine T_region ?_
      refine TL_pure rfl rfl rfl rfl (op_load_agg ag41 sz41 rfl rfl rfl) ?_
      refine TL_store_box sz41 rfl rfl rfl rfl rfl rfl rfl rfl rfl ?_
      refine TL_pure rfl rfl rfl rfl (op_assign rfl) ?_
      refine TL_nil ?_
      refine T_keepH [2, 3] [12, 14] rfl rfl rfl rfl (by rw [hF]; rfl) ?_
      refine T_ren [(12, 12), (14, 1000)] rfl rfl rfl (by rw [hF]; rfl) ?_
      refine T_ret ?_
      obtain rfl := someI hm
      refine ⟨[_, _], [1000], ⟨⟨_, _, rfl, rfl, .inr ⟨ag41, _, _, sz41, rfl, rfl⟩⟩, rfl, trivial⟩, ?_, rfl, rfl, rfl, rfl⟩
      rfl
    · unfold m_impl_Term_tightened_L0 at hm
      refine T_seq ?_
      refine T_region ?_
      refine TL_pure rfl rfl rfl rfl (op_lss rfl rfl) ?_
      refine TL_nil ?_
      refine T_seq ?_
      refine T_cond rfl (fun hq => ?_) (fun hq => ?_)
      · replace hm := condT hq hm
        refine T_skip ?_
        refine T_seq ?_
        refine T_block ?_
        refine T_seq ?_
        refine T_region ?_
        refine TL_pure rfl rfl rfl rfl (op_move rfl) ?_
        refine TL_pure rfl rfl rfl rfl (op_assign rfl) ?_
        refine TL_nil ?_
        refine T_region ?_
        refine TL_pure rfl rfl rfl rfl (op_fieldAddr fa41_1 rfl rfl) ?_
        refine TL_pure rfl rfl rfl rfl (op_load_one ag26 rfl rfl) ?_
        refine TL_pure rfl rfl rfl rfl (op_move rfl) ?_
        obtain ⟨x29, hx29, hm⟩ := bindS hm
        refine TL_pure rfl rfl rfl rfl (op_indexO el26 rfl rfl rfl hx29) ?_
        refine TL_pure rfl rfl rfl rfl (op_loadD1 ag2 rfl rfl ((getI_spec hx29).2) rfl rfl rfl rfl) ?_
        refine TL_pure rfl rfl rfl rfl (op_move rfl) ?_
        obtain ⟨q32, hq32, hm⟩ := bindS hm
        refine TL_pure rfl rfl rfl rfl (op_quoT rfl rfl hq32) ?_
        refine TL_pure rfl rfl rfl rfl (op_indexO el26 rfl rfl rfl hx29) ?_
        refine TL_storeFT sz2 rfl rfl ((getI_spec hx29).2) (v' := q32) rfl rfl rfl rfl rfl rfl rfl rfl rfl ?_
        refine TL_nil ?_
        refine T_region ?_
        refine TL_pure rfl rfl rfl rfl (op_addW rfl rfl) ?_
        refine TL_pure rfl rfl rfl rfl (op_move rfl) ?_
        refine TL_nil ?_
        refine TR_keepH [2, 4, 5, 22, 23] [12, 14, 15] rfl rfl rfl rfl (by rw [hF]; rfl) ?_
        obtain rfl := someI hm
        have hn := CtlOK_next hc0
        exact hn _ rfl
      · replace hm := condF hq hm
        refine T_keepH [2, 5] [12, 14, 15] rfl rfl rfl rfl (by rw [hF]; rfl) ?_
        refine T_exit ?_
        obtain rfl := someI hm
        have hn := CtlOK_out hc0
        exact hx0 s0.1 hn
theorem c_slices_Equal_int64_int64 (p0 : List Int) (p1 : List Int) (out : Bool) (hm : m_slices_Equal_int64_int64 p0 p1 = some out) : ACall Try.prog 129 [.sl 1 (List.map a_i64 p0), .sl 1 (List.map a_i64 p1)] [] (.bool out) [] := by
  refine ACall.intro Try.func129 rfl Try.ntmps129 rfl (fun F hF => ?_)
  unfold m_slices_Equal_int64_int64 at hm
  refine T_seq ?_
  refine T_region ?_
  refine TL_pure rfl rfl rfl rfl (op_assign rfl) ?_
  refine TL_nil ?_
  refine T_seq ?_
  refine T_seq ?_
  refine T_region ?_
  refine TL_pure rfl rfl rfl rfl (op_move rfl) ?_
  refine TL_pure rfl rfl rfl rfl (op_lenT Try.underlying26 rfl (List.length_map _)) ?_
  refine TL_fact (fun _ _ _ hr => RelP.slLen (i := 6) rfl hr) (fun hlen7 => ?_)
  rw [List.length_map] at hlen7
  refine TL_pure rfl rfl rfl rfl (op_move rfl) ?_
  refine TL_pure rfl rfl rfl rfl (op_lenT Try.underlying26 rfl (List.length_map _)) ?_
  refine TL_fact (fun _ _ _ hr => RelP.slLen (i := 8) rfl hr) (fun hlen9 => ?_)
  rw [List.length_map] at hlen9
  refine TL_pure rfl rfl rfl rfl (op_neq rfl rfl) ?_
  refine TL_nil ?_
  refine T_cond rfl (fun hq => ?_) (fun hq => ?_)
  · replace hm := condT hq hm
    refine T_seq ?_
    refine T_region ?_
    refine TL_pure rfl rfl rfl rfl (op_assign rfl) ?_
    refine TL_nil ?_
    refine T_keepH [4] [] rfl rfl rfl rfl (by rw [hF]; rfl) ?_
    refine T_ret ?_
    obtain rfl := someI hm
    refine ⟨[_], [], ⟨rfl, trivial⟩, ?_, rfl, rfl, rfl, rfl⟩
    rfl
  · replace hm := condF hq hm
    refine T_skip ?_
    refine T_seq ?_
    refine T_seq ?_
    refine T_region ?_
    refine TL_pure rfl rfl rfl rfl (op_move rfl) ?_
    refine TL_pure rfl rfl rfl rfl (op_lenT Try.underlying26 rfl (List.length_map _)) ?_
    refine TL_pure rfl rfl rfl rfl (op_move rfl) ?_
    refine TL_nil ?_
    refine T_block ?_
    refine T_keepH [0, 1, 12, 13] [] rfl rfl rfl rfl (by rw [hF]; rfl) ?_
    refine T_loop ?_
    obtain ⟨u0, hl0, hm⟩ := bindS hm
    refine TR_forL2 p0 (m_slices_Equal_int64_int64_L0 p1) (fun (s0 : Unit) => (.inl ())) (fun n0 (s0 : Unit) => ⟨[(0, .sl 1 (List.map a_i64 p0)), (1, .sl 1 (List.map a_i64 p1)), (12, .int .i64 (p0.length : Int)), (13, .int .i64 (n0 : Int))], []⟩) (fun u0 => match u0 with | .inl u0 => .exit 0 | .inr u0 => .ret) (fun u0 => match u0 with | .inl u0 => ⟨[], []⟩ | .inr u0 => ⟨[(4, .bool u0)], []⟩) (fun u0 => m_slices_Equal_int64_int64_A0 u0 = some out) hl0 hm (fun u0 hm => ?_) (fun hx0 s0 hm => ?_) (fun hx0 n0 x0 s0 c0 hxn0 hlt0 hm hc0 => ?_)
    · rcases u0 with u0 | u0
      · unfold m_slices_Equal_int64_int64_A0 at hm
        refine T_seq ?_
        refine T_region ?_
        refine TL_pure rfl rfl rfl rfl (op_assign rfl) ?_
        refine TL_nil ?_
        refine T_keepH [4] [] rfl rfl rfl rfl (by rw [hF]; rfl) ?_
        refine T_ret ?_
        obtain rfl := someI hm
        refine ⟨[_], [], ⟨rfl, trivial⟩, ?_, rfl, rfl, rfl, rfl⟩
        rfl
      · unfold m_slices_Equal_int64_int64_A0 at hm
        obtain rfl := someI hm
        refine ⟨[_], [], ⟨rfl, trivial⟩, ?_, rfl, rfl, rfl, rfl⟩
        rfl
    · refine T_seq ?_
      refine T_region ?_
      refine TL_pure rfl rfl rfl rfl (op_lss rfl rfl) ?_
      refine TL_nil ?_
      refine T_seq ?_
      refine T_if_false rfl (decide_eq_false (by simp)) ?_
      refine T_keepH [] [] rfl rfl rfl rfl (by rw [hF]; rfl) ?_
      refine T_exit ?_
      exact hx0 (.inl ()) hm
    · unfold m_slices_Equal_int64_int64_L0 at hm
      refine T_seq ?_
      refine T_region ?_
      refine TL_pure rfl rfl rfl rfl (op_lss rfl rfl) ?_
      refine TL_nil ?_
      refine T_seq ?_
      refine T_if_true rfl (decide_eq_true (Int.ofNat_lt.2 hlt0)) ?_
      refine T_skip ?_
      refine T_seq ?_
      refine T_block ?_
      refine T_seq ?_
      refine T_region ?_
      refine TL_pure rfl rfl rfl rfl (op_move rfl) ?_
      refine TL_pure rfl rfl rfl rfl (op_assign rfl) ?_
      refine TL_nil ?_
      refine T_seq ?_
      refine T_drawZ [] mix (by kernel_rfl) rfl ?_
      obtain ⟨x22, hx22, hm⟩ := bindS hm
      refine TZ_pure 0 (by kernel_rfl) rfl rfl rfl rfl rfl (op_move rfl) ?_
      refine TZ_pure 1 (by kernel_rfl) rfl rfl rfl rfl rfl (op_move rfl) ?_
      refine TZ_pure 2 (by kernel_rfl) rfl rfl rfl rfl rfl (op_index_sl el26 rfl rfl rfl (get_map hxn0) rfl) ?_
      refine TZ_pure 3 (by kernel_rfl) rfl rfl rfl rfl rfl (op_load_one ag2 rfl rfl) ?_
      refine TZ_pure 4 (by kernel_rfl) rfl rfl rfl rfl rfl (op_move rfl) ?_
      refine TZ_pure 5 (by kernel_rfl) rfl rfl rfl rfl rfl (op_move rfl) ?_
      refine TZ_pure 6 (by kernel_rfl) rfl rfl rfl rfl rfl (op_indexT el26 rfl rfl hx22 rfl) ?_
      refine TZ_pure 7 (by kernel_rfl) rfl rfl rfl rfl rfl (op_load_one ag2 rfl rfl) ?_
      refine TZ_pure 8 (by kernel_rfl) rfl rfl rfl rfl rfl (op_neq rfl rfl) ?_
      refine TZ_done (by kernel_rfl) ?_
      refine T_cond rfl (fun hq => ?_) (fun hq => ?_)
      · replace hm := condT hq hm
        refine T_seq ?_
        refine T_region ?_
        refine TL_pure rfl rfl rfl rfl (op_assign rfl) ?_
        refine TL_nil ?_
        refine T_keepH [4] [] rfl rfl rfl rfl (by rw [hF]; rfl) ?_
        refine T_ret ?_
        obtain rfl := someI hm
        have hn := CtlOK_out hc0
        exact hx0 (.inr false) hn
      · replace hm := condF hq hm
        refine T_skip ?_
        refine T_region ?_
        refine TL_pure rfl rfl rfl rfl (op_addN rfl rfl (Nat.lt_of_lt_of_le hlt0 hlen7)) ?_
        refine TL_pure rfl rfl rfl rfl (op_move rfl) ?_
        refine TL_nil ?_
        refine TR_keepH [0, 1, 12, 13] [] rfl rfl rfl rfl (by rw [hF]; rfl) ?_
        obtain rfl := someI hm
        have hn := CtlOK_next hc0
        exact hn _ rfl
theorem c_impl_Term_equal (p0 : Term) (p1 : Term) (out : Bool) (hm : m_impl_Term_equal p0 p1 = some out) : ACall Try.prog 127 [.agg [.int .i64 p0.Const, .sl 1 (List.map a_i64 p0.Coeffs)], .agg [.int .i64 p1.Const, .sl 1 (List.map a_i64 p1.Coeffs)]] [] (.bool out) [] := by
  refine ACall.intro Try.func127 rfl Try.ntmps127 rfl (fun F hF => ?_)
  unfold m_impl_Term_equal at hm
  refine T_seq ?_
  refine T_region ?_
  refine TL_box 11 rfl rfl rfl rfl rfl rfl rfl ?_
  refine TL_box 12 rfl rfl rfl rfl rfl rfl rfl ?_
  refine TL_pure rfl rfl rfl rfl (op_assign rfl) ?_
  refine TL_nil ?_
  refine T_seq ?_
  refine T_region ?_
  refine TL_pure rfl rfl rfl rfl (op_fieldAddr fa41_0 rfl rfl) ?_
  refine TL_pure rfl rfl rfl rfl (op_load_one ag2 rfl rfl) ?_
  refine TL_pure rfl rfl rfl rfl (op_fieldAddr fa41_0 rfl rfl) ?_
  refine TL_pure rfl rfl rfl rfl (op_load_one ag2 rfl rfl) ?_
  refine TL_pure rfl rfl rfl rfl (op_eql rfl rfl) ?_
  refine TL_pure rfl rfl rfl rfl (op_move rfl) ?_
  refine TL_split 10 rfl rfl rfl (fun hq => ?_) (fun hq => ?_)
  · replace hm := condT hq hm
    refine TL_want rfl rfl ?_
    refine TL_pure rfl rfl rfl rfl (op_fieldAddr fa41_1 rfl rfl) ?_
    refine TL_want rfl rfl ?_
    refine TL_pure rfl rfl rfl rfl (op_load_one ag26 rfl rfl) ?_
    refine TL_want rfl rfl ?_
    refine TL_pure rfl rfl rfl rfl (op_fieldAddr fa41_1 rfl rfl) ?_
    refine TL_want rfl rfl ?_
    refine TL_pure rfl rfl rfl rfl (op_load_one ag26 rfl rfl) ?_
    refine TL_want rfl rfl ?_
    obtain ⟨r15, hr15, hm⟩ := bindS hm
    refine TL_callF (ACall.F (F := F) (c_slices_Equal_int64_int64 p0.Coeffs p1.Coeffs r15 hr15)) Try.call129 rfl rfl rfl rfl rfl ?_
    refine TL_pure rfl rfl rfl rfl (op_pick_true rfl rfl) ?_
    refine TL_pure rfl rfl rfl rfl (op_assign rfl) ?_
    refine TL_nil ?_
    refine T_keepH [4] [] rfl rfl rfl rfl (by rw [hF]; rfl) ?_
    refine T_ret ?_
    obtain rfl := someI hm
    refine ⟨[_], [], ⟨rfl, trivial⟩, ?_, rfl, rfl, rfl, rfl⟩
    rfl
  · replace hm := condF hq hm
    refine TL_pass rfl rfl rfl rfl rfl rfl rfl ?_
    refine TL_pass rfl rfl rfl rfl rfl rfl rfl ?_
    refine TL_pass rfl rfl rfl rfl rfl rfl rfl ?_
    refine TL_pass rfl rfl rfl rfl rfl rfl rfl ?_
    refine TL_pass rfl rfl rfl rfl rfl rfl rfl ?_
    refine TL_pure rfl rfl rfl rfl (op_pick_false rfl rfl) ?_
    refine TL_pure rfl rfl rfl rfl (op_assign rfl) ?_
    refine TL_nil ?_
    refine T_keepH [4] [] rfl rfl rfl rfl (by rw [hF]; rfl) ?_
    refine T_ret ?_
    obtain rfl := someI hm
    refine ⟨[_], [], ⟨rfl, trivial⟩, ?_, rfl, rfl, rfl, rfl⟩
    rfl
theorem c_slices_IndexFunc_impl_Term_impl_Term_fequal (p0 : List Term) (v1_0_0 : Int) (v1_0_1 : List Int) (out : Int) (hm : m_slices_IndexFunc_impl_Term_impl_Term_fequal p0 v1_0_0 v1_0_1 = some out) : ACall Try.prog 119 [.sl 2 (List.map a_Term p0), .fn (.func 127) [.agg [.int .i64 v1_0_0, .sl 1 (List.map a_i64 v1_0_1)]] []] [] (.int .i64 out) [] := by
  refine ACall.intro Try.func119 rfl Try.ntmps119 rfl (fun F hF => ?_)
  unfold m_slices_IndexFunc_impl_Term_impl_Term_fequal at hm
  refine T_seq ?_
  refine T_region ?_
  refine TL_pure rfl rfl rfl rfl (op_assign rfl) ?_
  refine TL_nil ?_
  refine T_seq ?_
  refine T_seq ?_
  refine T_region ?_
  refine TL_pure rfl rfl rfl rfl (op_move rfl) ?_
  refine TL_pure rfl rfl rfl rfl (op_lenT Try.underlying24 rfl (List.length_map _)) ?_
  refine TL_fact (fun _ _ _ hr => RelP.slLen (i := 6) rfl hr) (fun hlen7 => ?_)
  rw [List.length_map] at hlen7
  refine TL_pure rfl rfl rfl rfl (op_move rfl) ?_
  refine TL_nil ?_
  refine T_block ?_
  refine T_keepH [0, 1, 7, 8] [] rfl rfl rfl rfl (by rw [hF]; rfl) ?_
  refine T_loop ?_
  obtain ⟨u0, hl0, hm⟩ := bindS hm
  refine TR_forL2 p0 (m_slices_IndexFunc_impl_Term_impl_Term_fequal_L0 v1_0_0 v1_0_1) (fun (s0 : Unit) => (.inl ())) (fun n0 (s0 : Unit) => ⟨[(0, .sl 2 (List.map a_Term p0)), (1, .fn (.func 127) [.agg [.int .i64 v1_0_0, .sl 1 (List.map a_i64 v1_0_1)]] []), (7, .int .i64 (p0.length : Int)), (8, .int .i64 (n0 : Int))], []⟩) (fun u0 => match u0 with | .inl u0 => .exit 0 | .inr u0 => .ret) (fun u0 => match u0 with | .inl u0 => ⟨[], []⟩ | .inr u0 => ⟨[(4, .int .i64 u0)], []⟩) (fun u0 => m_slices_IndexFunc_impl_Term_impl_Term_fequal_A0 u0 = some out) hl0 hm (fun u0 hm => ?_) (fun hx0 s0 hm => ?_) (fun hx0 n0 x0 s0 c0 hxn0 hlt0 hm hc0 => ?_)
  · rcases u0 with u0 | u0
    · unfold m_slices_IndexFunc_impl_Term_impl_Term_fequal_A0 at hm
      refine T_seq ?_
      refine T_region ?_
      refine TL_pure rfl rfl rfl rfl (op_assign rfl) ?_
      refine TL_nil ?_
      refine T_keepH [4] [] rfl rfl rfl rfl (by rw [hF]; rfl) ?_
      refine T_ret ?_
      obtain rfl := someI hm
      refine ⟨[_], [], ⟨rfl, trivial⟩, ?_, rfl, rfl, rfl, rfl⟩
      rfl
    · unfold m_slices_IndexFunc_impl_Term_impl_Term_fequal_A0 at hm
      obtain rfl := someI hm
      refine ⟨[_], [], ⟨rfl, trivial⟩, ?_, rfl, rfl, rfl, rfl⟩
      rfl
  · refine T_seq ?_
    refine T_region ?_
    refine TL_pure rfl rfl rfl rfl (op_lss rfl rfl) ?_
    refine TL_nil ?_
    refine T_seq ?_
    refine T_if_false rfl (decide_eq_false (by simp)) ?_
    refine T_keepH [] [] rfl rfl rfl rfl (by rw [hF]; rfl) ?_
    refine T_exit ?_
    exact hx0 (.inl ()) hm
  · unfold m_slices_IndexFunc_impl_Term_impl_Term_fequal_L0 at hm
    refine T_seq ?_
    refine T_region ?_
    refine TL_pure rfl rfl rfl rfl (op_lss rfl rfl) ?_
    refine TL_nil ?_
    refine T_seq ?_
    refine T_if_true rfl (decide_eq_true (Int.ofNat_lt.2 hlt0)) ?_
    refine T_skip ?_
    refine T_seq ?_
    refine T_block ?_
    refine T_seq ?_
    refine T_region ?_
    refine TL_pure rfl rfl rfl rfl (op_move rfl) ?_
    refine TL_pure rfl rfl rfl rfl (op_assign rfl) ?_
    refine TL_nil ?_
    refine T_seq ?_
    refine T_region ?_
    refine TL_pure rfl rfl rfl rfl (op_move rfl) ?_
    refine TL_pure rfl rfl rfl rfl (op_move rfl) ?_
    refine TL_pure rfl rfl rfl rfl (op_move rfl) ?_
    refine TL_pure rfl rfl rfl rfl (op_index_sl el24 rfl rfl rfl (get_map hxn0) rfl) ?_
    refine TL_pure rfl rfl rfl rfl (op_load_agg ag41 sz41 rfl rfl rfl) ?_
    obtain ⟨r16, hr16, hm⟩ := bindS hm
    refine TL_callV rfl (ACall.F (F := F) (c_impl_Term_equal (Term.mk v1_0_0 v1_0_1) x0 r16 hr16)) Try.call127 rfl rfl rfl rfl rfl ?_
    refine TL_nil ?_
    refine T_cond rfl (fun hq => ?_) (fun hq => ?_)
    · replace hm := condT hq hm
      refine T_seq ?_
      refine T_region ?_
      refine TL_pure rfl rfl rfl rfl (op_move rfl) ?_
      refine TL_pure rfl rfl rfl rfl (op_assign rfl) ?_
      refine TL_nil ?_
      refine T_keepH [4] [] rfl rfl rfl rfl (by rw [hF]; rfl) ?_
      refine T_ret ?_
      obtain rfl := someI hm
      have hn := CtlOK_out hc0
      exact hx0 (.inr (n0 : Int)) hn
    · replace hm := condF hq hm
      refine T_skip ?_
      refine T_region ?_
      refine TL_pure rfl rfl rfl rfl (op_addN rfl rfl (Nat.lt_of_lt_of_le hlt0 hlen7)) ?_
      refine TL_pure rfl rfl rfl rfl (op_move rfl) ?_
      refine TL_nil ?_
      refine TR_keepH [0, 1, 7, 8] [] rfl rfl rfl rfl (by rw [hF]; rfl) ?_
      obtain rfl := someI hm
      have hn := CtlOK_next hc0
      exact hn _ rfl
theorem c_slices_ContainsFunc_impl_Term_impl_Term_fequal (p0 : List Term) (v1_0_0 : Int) (v1_0_1 : List Int) (out : Bool) (hm : m_slices_ContainsFunc_impl_Term_impl_Term_fequal p0 v1_0_0 v1_0_1 = some out) : ACall Try.prog 105 [.sl 2 (List.map a_Term p0), .fn (.func 127) [.agg [.int .i64 v1_0_0, .sl 1 (List.map a_i64 v1_0_1)]] []] [] (.bool out) [] := by
  refine ACall.intro Try.func105 rfl Try.ntmps105 rfl (fun F hF => ?_)
  unfold m_slices_ContainsFunc_impl_Term_impl_Term_fequal at hm
  refine T_seq ?_
  refine T_region ?_
  refine TL_pure rfl rfl rfl rfl (op_assign rfl) ?_
  refine TL_nil ?_
  refine T_seq ?_
  refine T_region ?_
  refine TL_pure rfl rfl rfl rfl (op_move rfl) ?_
  refine TL_pure rfl rfl rfl rfl (op_move rfl) ?_
  obtain ⟨r7, hr7, hm⟩ := bindS hm
  refine TL_callF (ACall.F (F := F) (c_slices_IndexFunc_impl_Term_impl_Term_fequal p0 v1_0_0 v1_0_1 r7 hr7)) Try.call119 rfl rfl rfl rfl rfl ?_
  refine TL_pure rfl rfl rfl rfl (op_geq rfl rfl) ?_
  refine TL_pure rfl rfl rfl rfl (op_assign rfl) ?_
  refine TL_nil ?_
  refine T_keepH [4] [] rfl rfl rfl rfl (by rw [hF]; rfl) ?_
  refine T_ret ?_
  obtain rfl := someI hm
  refine ⟨[_], [], ⟨rfl, trivial⟩, ?_, rfl, rfl, rfl, rfl⟩
  rfl
theorem c_impl_hasTerm (p0 : List Term) (p1 : Term) (out : Bool) (hm : m_impl_hasTerm p0 p1 = some out) : ACall Try.prog 123 [.sl 2 (List.map a_Term p0), .agg [.int .i64 p1.Const, .sl 1 (List.map a_i64 p1.Coeffs)]] [] (.bool out) [] := by
  refine ACall.intro Try.func123 rfl Try.ntmps123 rfl (fun F hF => ?_)
  unfold m_impl_hasTerm at hm
  refine T_seq ?_
  refine T_region ?_
  refine TL_box 11 rfl rfl rfl rfl rfl rfl rfl ?_
  refine TL_pure rfl rfl rfl rfl (op_assign rfl) ?_
  refine TL_nil ?_
  refine T_seq ?_
  refine T_region ?_
  refine TL_pure rfl rfl rfl rfl (op_move rfl) ?_
  refine TL_pure rfl rfl rfl rfl (op_load_agg ag41 sz41 rfl rfl rfl) ?_
  refine TL_pure rfl rfl rfl rfl (op_makeFunc rfl rfl) ?_
  obtain ⟨r8, hr8, hm⟩ := bindS hm
  refine TL_callF (ACall.F (F := F) (c_slices_ContainsFunc_impl_Term_impl_Term_fequal p0 p1.Const p1.Coeffs r8 hr8)) Try.call105 rfl rfl rfl rfl rfl ?_
  refine TL_pure rfl rfl rfl rfl (op_assign rfl) ?_
  refine TL_nil ?_
  refine T_keepH [4] [] rfl rfl rfl rfl (by rw [hF]; rfl) ?_
  refine T_ret ?_
  obtain rfl := someI hm
  refine ⟨[_], [], ⟨rfl, trivial⟩, ?_, rfl, rfl, rfl, rfl⟩
  rfl
theorem c_impl_cuts (p0 : Term) (p1 : List Term) (out : Term × Bool) (hm : m_impl_cuts p0 p1 = some out) : ACall Try.prog 109 [.agg [.int .i64 p0.Const, .sl 1 (List.map a_i64 p0.Coeffs)], .sl 2 (List.map a_Term p1)] [] (.tup [.agg [.int .i64 out.1.Const, .ow 1000], .bool out.2]) [(1000, .arr ⟨false, true⟩ 1 2 (List.map a_i64 out.1.Coeffs))] := by
  refine ACall.intro Try.func109 rfl Try.ntmps109 rfl (fun F hF => ?_)
  unfold m_impl_cuts at hm
  refine T_seq ?_
  refine T_region ?_
  refine TL_box 11 rfl rfl rfl rfl rfl rfl rfl ?_
  refine TL_alloc 12 z41 rfl rfl rfl rfl rfl rfl rfl ?_
  refine TL_pure rfl rfl rfl rfl (op_assign rfl) ?_
  refine TL_nil ?_
  refine T_seq ?_
  refine T_region ?_
  refine TL_pure rfl rfl rfl rfl (op_fieldAddr fa41_1 rfl rfl) ?_
  refine TL_pure rfl rfl rfl rfl (op_load_one ag26 rfl rfl) ?_
  obtain ⟨r11, hr11, hm⟩ := bindS hm
  refine TL_callF (ACall.F (F := F) (c_impl_gcd p0.Coeffs r11 hr11)) Try.call115 rfl rfl rfl rfl rfl ?_
  refine TL_pure rfl rfl rfl rfl (op_assign rfl) ?_
  refine TL_nil ?_
  refine T_seq ?_
  refine T_seq ?_
  refine T_region ?_
  refine TL_pure rfl rfl rfl rfl (op_move rfl) ?_
  refine TL_pure rfl rfl rfl rfl (op_leq rfl rfl) ?_
  refine TL_pure rfl rfl rfl rfl (op_move rfl) ?_
  refine TL_split 14 rfl rfl rfl (fun hq => ?_) (fun hq => ?_)
  · replace hm := condT hq hm
    refine TL_pass rfl rfl rfl rfl rfl rfl rfl ?_
    refine TL_pass rfl rfl rfl rfl rfl rfl rfl ?_
    refine TL_pass rfl rfl rfl rfl rfl rfl rfl ?_
    refine TL_pass rfl rfl rfl rfl rfl rfl rfl ?_
    refine TL_pass rfl rfl rfl rfl rfl rfl rfl ?_
    refine TL_pure rfl rfl rfl rfl (op_pick_true rfl rfl) ?_
    refine TL_nil ?_
    refine T_cond_true rfl ?_
    refine T_seq ?_
    refine T_region ?_
    refine TL_pure rfl rfl rfl rfl (op_buildP pl41 z41 rfl rfl rfl rfl rfl) ?_
    refine TL_store_box sz41 rfl rfl rfl rfl rfl rfl rfl rfl rfl ?_
    refine TL_pure rfl rfl rfl rfl (op_assign rfl) ?_
    refine TL_nil ?_
    refine T_ownNilBox 12 1 13 ⟨false, true⟩ 2 rfl rfl rfl (sz := 1) rfl rfl rfl rfl ?_
    refine T_keepH [4, 5] [12, 13] rfl rfl rfl rfl (by rw [hF]; rfl) ?_
    refine T_ren [(12, 12), (13, 1000)] rfl rfl rfl (by rw [hF]; rfl) ?_
    refine T_ret ?_
    obtain rfl := someI hm
    refine ⟨[_, _], [1000], ⟨⟨_, _, rfl, rfl, .inr ⟨ag41, _, _, sz41, rfl, rfl⟩⟩, rfl, trivial⟩, ?_, rfl, rfl, rfl, rfl⟩
    rfl
  · replace hm := condF hq hm
    refine TL_want rfl rfl ?_
    refine TL_pure rfl rfl rfl rfl (op_fieldAddr fa41_0 rfl rfl) ?_
    refine TL_want rfl rfl ?_
    refine TL_pure rfl rfl rfl rfl (op_load_one ag2 rfl rfl) ?_
    refine TL_want rfl rfl ?_
    refine TL_pure rfl rfl rfl rfl (op_move rfl) ?_
    refine TL_want rfl rfl ?_
    obtain ⟨q18, hq18, hm⟩ := bindS hm
    refine TL_pure rfl rfl rfl rfl (op_remT rfl rfl hq18) ?_
    refine TL_want rfl rfl ?_
    refine TL_pure rfl rfl rfl rfl (op_eql rfl rfl) ?_
    refine TL_pure rfl rfl rfl rfl (op_pick_false rfl rfl) ?_
    refine TL_nil ?_
    refine T_cond rfl (fun hq => ?_) (fun hq => ?_)
    · replace hm := condT hq hm
      refine T_seq ?_
      refine T_region ?_
      refine TL_pure rfl rfl rfl rfl (op_buildP pl41 z41 rfl rfl rfl rfl rfl) ?_
      refine TL_store_box sz41 rfl rfl rfl rfl rfl rfl rfl rfl rfl ?_
      refine TL_pure rfl rfl rfl rfl (op_assign rfl) ?_
      refine TL_nil ?_
      refine T_ownNilBox 12 1 14 ⟨false, true⟩ 2 rfl rfl rfl (sz := 1) rfl rfl rfl rfl ?_
      refine T_keepH [4, 5] [12, 14] rfl rfl rfl rfl (by rw [hF]; rfl) ?_
      refine T_ren [(12, 12), (14, 1000)] rfl rfl rfl (by rw [hF]; rfl) ?_
      refine T_ret ?_
      obtain rfl := someI hm
      refine ⟨[_, _], [1000], ⟨⟨_, _, rfl, rfl, .inr ⟨ag41, _, _, sz41, rfl, rfl⟩⟩, rfl, trivial⟩, ?_, rfl, rfl, rfl, rfl⟩
      rfl
    · replace hm := condF hq hm
      refine T_skip ?_
      refine T_seq ?_
      refine T_region ?_
      refine TL_pure rfl rfl rfl rfl (op_load_agg ag41 sz41 rfl rfl rfl) ?_
      obtain ⟨r24, hr24, hm⟩ := bindS hm
      refine TL_callO [(1000, 15)] (ACall.F (F := F) (c_impl_Term_tightened p0 r24 hr24)) Try.call122 rfl rfl rfl rfl rfl rfl rfl rfl rfl rfl rfl rfl rfl ?_
      refine TL_pure rfl rfl rfl rfl (op_move rfl) ?_
      refine TL_pure rfl rfl rfl rfl (op_extract rfl rfl) ?_
      refine TL_pure rfl rfl rfl rfl (op_extract rfl rfl) ?_
      refine TL_alloc 16 z41 rfl rfl rfl rfl rfl rfl rfl ?_
      refine TL_store_box sz41 rfl rfl rfl rfl rfl rfl rfl rfl rfl ?_
      refine TL_pure rfl rfl rfl rfl (op_assign rfl) ?_
      refine TL_nil ?_
      refine T_seq ?_
      refine T_drawZ [8] mix (by kernel_rfl) rfl ?_
      refine TZ_pure 0 (by kernel_rfl) rfl rfl rfl rfl rfl (op_load_agg ag41 sz41 rfl rfl rfl) ?_
      refine TZ_pure 1 (by kernel_rfl) rfl rfl rfl rfl rfl (op_move rfl) ?_
      refine TZ_pure 2 (by kernel_rfl) rfl rfl rfl rfl rfl (op_move rfl) ?_
      refine TZ_split 29 rfl rfl rfl (fun hq => ?_) (fun hq => ?_)
      · replace hm := condT hq hm
        obtain ⟨r32, hr32, hm⟩ := bindS hm
        refine TZ_pureW 3 (by kernel_rfl) rfl rfl rfl rfl rfl rfl rfl (op_move rfl) ?_
        refine TZ_one 4 (by kernel_rfl) rfl ?_
        refine TL_want rfl rfl ?_
        refine TL_pure rfl rfl rfl rfl (op_load_agg ag41 sz41 rfl rfl rfl) ?_
        refine TL_nil ?_
        refine TZ_one 5 (by kernel_rfl) rfl ?_
        refine TL_want rfl rfl ?_
        refine TL_callF (ACall.F (F := F) (c_impl_hasTerm p1 r24.1 r32 hr32)) Try.call123 rfl rfl rfl rfl rfl ?_
        refine TL_nil ?_
        refine TZ_pureW 6 (by kernel_rfl) rfl rfl rfl rfl rfl rfl rfl (op_not rfl) ?_
        refine TZ_pure 7 (by kernel_rfl) rfl rfl rfl rfl rfl (op_pick_true rfl rfl) ?_
        refine TZ_one 8 (by kernel_rfl) rfl ?_
        refine TL_store_box sz41 rfl rfl rfl rfl rfl rfl rfl rfl rfl ?_
        refine TL_nil ?_
        refine TZ_pure 9 (by kernel_rfl) rfl rfl rfl rfl rfl (op_assign rfl) ?_
        refine TZ_done (by kernel_rfl) ?_
        refine T_keepH [4, 5] [12, 15] rfl rfl rfl rfl (by rw [hF]; rfl) ?_
        refine T_ren [(12, 12), (15, 1000)] rfl rfl rfl (by rw [hF]; rfl) ?_
        refine T_ret ?_
        obtain rfl := someI hm
        refine ⟨[_, _], [1000], ⟨⟨_, _, rfl, rfl, .inr ⟨ag41, _, _, sz41, rfl, rfl⟩⟩, rfl, trivial⟩, ?_, rfl, rfl, rfl, rfl⟩
        rfl
      · replace hm := condF hq hm
        refine TZ_pass 3 (by kernel_rfl) rfl rfl rfl rfl rfl rfl rfl rfl ?_
        refine TZ_one 4 (by kernel_rfl) rfl ?_
        refine TL_pass rfl rfl rfl rfl rfl rfl rfl ?_
        refine TL_nil ?_
        refine TZ_one 5 (by kernel_rfl) rfl ?_
        refine TL_pass rfl rfl rfl rfl rfl rfl rfl ?_
        refine TL_nil ?_
        refine TZ_pass 6 (by kernel_rfl) rfl rfl rfl rfl rfl rfl rfl rfl ?_
        refine TZ_pure 7 (by kernel_rfl) rfl rfl rfl rfl rfl (op_pick_false rfl rfl) ?_
        refine TZ_one 8 (by kernel_rfl) rfl ?_
        refine TL_store_box sz41 rfl rfl rfl rfl rfl rfl rfl rfl rfl ?_
        refine TL_nil ?_
        refine TZ_pure 9 (by kernel_rfl) rfl rfl rfl rfl rfl (op_assign rfl) ?_
        refine TZ_done (by kernel_rfl) ?_
        refine T_keepH [4, 5] [12, 15] rfl rfl rfl rfl (by rw [hF]; rfl) ?_
        refine T_ren [(12, 12), (15, 1000)] rfl rfl rfl (by rw [hF]; rfl) ?_
        refine T_ret ?_
        obtain rfl := someI hm
        refine ⟨[_, _], [1000], ⟨⟨_, _, rfl, rfl, .inr ⟨ag41, _, _, sz41, rfl, rfl⟩⟩, rfl, trivial⟩, ?_, rfl, rfl, rfl, rfl⟩
        rfl
theorem c_impl_size (p0 : Int) (out : Int) (hm : m_impl_size p0 = some out) : ACall Try.prog 104 [.int .i64 p0] [] (.int .i64 out) [] := by
  refine ACall.intro Try.func104 rfl Try.ntmps104 rfl (fun F hF => ?_)
  unfold m_impl_size at hm
  refine T_seq ?_
  refine T_region ?_
  refine TL_pure rfl rfl rfl rfl (op_assign rfl) ?_
  refine TL_nil ?_
  refine T_seq ?_
  refine T_region ?_
  refine TL_pure rfl rfl rfl rfl (op_move rfl) ?_
  refine TL_pure rfl rfl rfl rfl (op_assign rfl) ?_
  refine TL_nil ?_
  refine T_keepH [2] [] rfl rfl rfl rfl (by rw [hF]; rfl) ?_
  refine T_ret ?_
  obtain rfl := someI hm
  refine ⟨[_], [], ⟨rfl, trivial⟩, ?_, rfl, rfl, rfl, rfl⟩
  rfl
theorem c_impl_proving_write (p0 : proving) (p1 : Node) (out : proving) (hm : m_impl_proving_write p0 p1 = some out) : ACall Try.prog 113 [.ptr 0 0 0, .agg [.int .i64 p1.Kind, .int .i64 p1.Fact, .int .i64 p1.Term.Const, .sl 1 (List.map a_i64 p1.Term.Coeffs), .sl 1 (List.map a_i64 p1.Multipliers)]] [(0, .box [.int .i64 p0.budget, .ow 1, .bool p0.failed]), (1, .arr ⟨false, false⟩ 5 140 (List.map a_Node p0.nodes))] (.tup []) [(0, .box [.int .i64 out.budget, .ow 1, .bool out.failed]), (1, .arr ⟨false, false⟩ 5 140 (List.map a_Node out.nodes))] := by
  refine ACall.intro Try.func113 rfl Try.ntmps113 rfl (fun F hF => ?_)
  unfold m_impl_proving_write at hm
  refine T_seq ?_
  refine T_region ?_
  refine TL_box 11 rfl rfl rfl rfl rfl rfl rfl ?_
  refine TL_nil ?_
  refine T_seq ?_
  refine T_join (fun (j0 : Bool) => ⟨[(0, .ptr 0 0 0), (3, .ptr 11 0 0), (20, .bool j0)], [(0, .box [.int .i64 p0.budget, .ow 1, .bool p0.failed]), (1, .arr ⟨false, false⟩ 5 140 (List.map a_Node p0.nodes)), (11, .box [.int .i64 p1.Kind, .int .i64 p1.Fact, .int .i64 p1.Term.Const, .sl 1 (List.map a_i64 p1.Term.Coeffs), .sl 1 (List.map a_i64 p1.Multipliers)])]⟩) (fun j0 => m_impl_proving_write_J0 p0 p1 j0 = some out) (fun j0 hm => ?_) (fun hj0 => ?_)
  · unfold m_impl_proving_write_J0 at hm
    refine T_cond rfl (fun hq => ?_) (fun hq => ?_)
    · replace hm := condT hq hm
      refine T_seq ?_
      refine T_region ?_
      refine TL_pure rfl rfl rfl rfl (op_move rfl) ?_
      refine TL_pure rfl rfl rfl rfl (op_nilCheck rfl rfl) ?_
      refine TL_pure rfl rfl rfl rfl (op_fieldAddr fa115_2 rfl rfl) ?_
      refine TL_store_box sz4 rfl rfl rfl rfl rfl rfl rfl rfl rfl ?_
      refine TL_nil ?_
      refine T_keepH [] [0, 1] rfl rfl rfl rfl (by rw [hF]; rfl) ?_
      refine T_ret ?_
      obtain rfl := someI hm
      refine ⟨[], [0, 1], trivial, ?_, rfl, rfl, rfl, rfl⟩
      rfl
    · replace hm := condF hq hm
      refine T_skip ?_
      refine T_drawZ [6, 7, 10] mix (by kernel_rfl) rfl ?_
      obtain ⟨q31, hq31, hm⟩ := bindS hm
      refine TZ_pure 0 (by kernel_rfl) rfl rfl rfl rfl rfl (op_move rfl) ?_
      refine TZ_pure 1 (by kernel_rfl) rfl rfl rfl rfl rfl (op_move rfl) ?_
      refine TZ_pure 2 (by kernel_rfl) rfl rfl rfl rfl rfl (op_nilCheck rfl rfl) ?_
      refine TZ_pure 3 (by kernel_rfl) rfl rfl rfl rfl rfl (op_fieldAddr fa115_1 rfl rfl) ?_
      refine TZ_cut 6 [true, true, true, true, true, false, false, false, false, false, false] ⟨[(0, .ptr 0 0 0), (3, .ptr 11 0 0), (20, .bool j0), (24, .ptr 0 0 0), (25, .ptr 0 0 0), (26, .ptr 0 0 0), (27, .ptr 0 0 1), (28, .ow 1)], [(0, .box [.int .i64 p0.budget, .ow 1, .bool p0.failed]), (1, .arr ⟨false, false⟩ 5 140 (List.map a_Node p0.nodes)), (11, .box [.int .i64 p1.Kind, .int .i64 p1.Fact, .int .i64 p1.Term.Const, .sl 1 (List.map a_i64 p1.Term.Coeffs), .sl 1 (List.map a_i64 p1.Multipliers)])]⟩ ?_ (fun hS11_0 => ?_)
      · refine TZ_one 5 (by kernel_rfl) rfl ?_
        refine TL_pure rfl rfl rfl rfl (op_load_agg ag140 sz140 rfl rfl rfl) ?_
        refine TL_nil ?_
        refine TZ_one 6 (by kernel_rfl) rfl ?_
        refine TL_buildSlice 572 (es := List.map a_Node [p1]) el59 z140 rfl rfl rfl rfl rfl rfl rfl rfl rfl ?_
        refine TL_nil ?_
        refine TZ_one 7 (by kernel_rfl) rfl ?_
        refine TL_appendT (f := a_Node) (a := p0.nodes) (b := [p1]) el59 z140 rfl rfl rfl rfl rfl rfl rfl (capI_spec hq31) rfl rfl rfl rfl rfl ?_
        refine TL_nil ?_
        refine TZ_pure 8 (by kernel_rfl) rfl rfl rfl rfl rfl (op_nilCheck rfl rfl) ?_
        refine TZ_pure 9 (by kernel_rfl) rfl rfl rfl rfl rfl (op_fieldAddr fa115_1 rfl rfl) ?_
        refine TZ_one 10 (by kernel_rfl) rfl ?_
        refine TL_store_box sz59 rfl rfl rfl rfl rfl rfl rfl rfl rfl ?_
        refine TL_nil ?_
        refine TZ_keepH [] [0, 1] rfl rfl rfl rfl (by rw [hF]; rfl) ?_
        refine TZ_done (by kernel_rfl) ?_
        obtain rfl := someI hm
        refine ⟨[], [0, 1], trivial, ?_, rfl, rfl, rfl, rfl⟩
        rfl
      refine TZ_cut 5 [true, true, true, true, true, true, false, false, false, false, false] ⟨[(0, .ptr 0 0 0), (3, .ptr 11 0 0), (20, .bool j0), (24, .ptr 0 0 0), (25, .ptr 0 0 0), (26, .ptr 0 0 0), (27, .ptr 0 0 1), (28, .ow 1), (29, .agg [.int .i64 p1.Kind, .int .i64 p1.Fact, .int .i64 p1.Term.Const, .sl 1 (List.map a_i64 p1.Term.Coeffs), .sl 1 (List.map a_i64 p1.Multipliers)])], [(0, .box [.int .i64 p0.budget, .ow 1, .bool p0.failed]), (1, .arr ⟨false, false⟩ 5 140 (List.map a_Node p0.nodes)), (11, .box [.int .i64 p1.Kind, .int .i64 p1.Fact, .int .i64 p1.Term.Const, .sl 1 (List.map a_i64 p1.Term.Coeffs), .sl 1 (List.map a_i64 p1.Multipliers)])]⟩ ?_ (fun hS11_1 => ?_)
      · refine TZ_one 6 (by kernel_rfl) rfl ?_
        refine TL_buildSlice 572 (es := List.map a_Node [p1]) el59 z140 rfl rfl rfl rfl rfl rfl rfl rfl rfl ?_
        refine TL_nil ?_
        refine TZ_one 7 (by kernel_rfl) rfl ?_
        refine TL_appendT (f := a_Node) (a := p0.nodes) (b := [p1]) el59 z140 rfl rfl rfl rfl rfl rfl rfl (capI_spec hq31) rfl rfl rfl rfl rfl ?_
        refine TL_nil ?_
        refine TZ_pure 8 (by kernel_rfl) rfl rfl rfl rfl rfl (op_nilCheck rfl rfl) ?_
        refine TZ_pure 9 (by kernel_rfl) rfl rfl rfl rfl rfl (op_fieldAddr fa115_1 rfl rfl) ?_
        refine TZ_one 10 (by kernel_rfl) rfl ?_
        refine TL_store_box sz59 rfl rfl rfl rfl rfl rfl rfl rfl rfl ?_
        refine TL_nil ?_
        refine TZ_keepH [] [0, 1] rfl rfl rfl rfl (by rw [hF]; rfl) ?_
        refine TZ_done (by kernel_rfl) ?_
        obtain rfl := someI hm
        refine ⟨[], [0, 1], trivial, ?_, rfl, rfl, rfl, rfl⟩
        rfl
      refine TZ_cut 5 [true, true, true, true, false, true, true, false, false, false, false] ⟨[(0, .ptr 0 0 0), (3, .ptr 11 0 0), (20, .bool j0), (24, .ptr 0 0 0), (25, .ptr 0 0 0), (26, .ptr 0 0 0), (27, .ptr 0 0 1), (29, .agg [.int .i64 p1.Kind, .int .i64 p1.Fact, .int .i64 p1.Term.Const, .sl 1 (List.map a_i64 p1.Term.Coeffs), .sl 1 (List.map a_i64 p1.Multipliers)]), (30, .ow 572)], [(0, .box [.int .i64 p0.budget, .ow 1, .bool p0.failed]), (1, .arr ⟨false, false⟩ 5 140 (List.map a_Node p0.nodes)), (11, .box [.int .i64 p1.Kind, .int .i64 p1.Fact, .int .i64 p1.Term.Const, .sl 1 (List.map a_i64 p1.Term.Coeffs), .sl 1 (List.map a_i64 p1.Multipliers)]), (572, .arr ⟨false, false⟩ 5 140 (List.map a_Node [p1]))]⟩ ?_ (fun hS11_2 => ?_)
      · refine TZ_pure 4 (by kernel_rfl) rfl rfl rfl rfl rfl (op_load_one ag59 rfl rfl) ?_
        refine TZ_one 7 (by kernel_rfl) rfl ?_
        refine TL_appendT (f := a_Node) (a := p0.nodes) (b := [p1]) el59 z140 rfl rfl rfl rfl rfl rfl rfl (capI_spec hq31) rfl rfl rfl rfl rfl ?_
        refine TL_nil ?_
        refine TZ_pure 8 (by kernel_rfl) rfl rfl rfl rfl rfl (op_nilCheck rfl rfl) ?_
        refine TZ_pure 9 (by kernel_rfl) rfl rfl rfl rfl rfl (op_fieldAddr fa115_1 rfl rfl) ?_
        refine TZ_one 10 (by kernel_rfl) rfl ?_
        refine TL_store_box sz59 rfl rfl rfl rfl rfl rfl rfl rfl rfl ?_
        refine TL_nil ?_
        refine TZ_keepH [] [0, 1] rfl rfl rfl rfl (by rw [hF]; rfl) ?_
        refine TZ_done (by kernel_rfl) ?_
        obtain rfl := someI hm
        refine ⟨[], [0, 1], trivial, ?_, rfl, rfl, rfl, rfl⟩
        rfl
      refine TZ_cut 6 [true, true, true, true, false, true, false, false, false, false, false] ⟨[(0, .ptr 0 0 0), (3, .ptr 11 0 0), (20, .bool j0), (24, .ptr 0 0 0), (25, .ptr 0 0 0), (26, .ptr 0 0 0), (27, .ptr 0 0 1), (29, .agg [.int .i64 p1.Kind, .int .i64 p1.Fact, .int .i64 p1.Term.Const, .sl 1 (List.map a_i64 p1.Term.Coeffs), .sl 1 (List.map a_i64 p1.Multipliers)])], [(0, .box [.int .i64 p0.budget, .ow 1, .bool p0.failed]), (1, .arr ⟨false, false⟩ 5 140 (List.map a_Node p0.nodes)), (11, .box [.int .i64 p1.Kind, .int .i64 p1.Fact, .int .i64 p1.Term.Const, .sl 1 (List.map a_i64 p1.Term.Coeffs), .sl 1 (List.map a_i64 p1.Multipliers)])]⟩ ?_ (fun hS11_3 => ?_)
      · refine TZ_each [4, 6] (by kernel_rfl) rfl ?_
        refine ⟨?_, ?_⟩
        · refine ⟨_, rfl, ?_⟩
          refine TL_pure rfl rfl rfl rfl (op_load_one ag59 rfl rfl) ?_
          refine TL_nil ?_
          refine TZ_keepH [0, 3, 20, 24, 25, 26, 27, 28, 29] [0, 1, 11] rfl rfl rfl rfl (by rw [hF]; rfl) ?_
          exact hS11_1
        · refine ⟨_, rfl, ?_⟩
          refine TL_buildSlice 572 (es := List.map a_Node [p1]) el59 z140 rfl rfl rfl rfl rfl rfl rfl rfl rfl ?_
          refine TL_nil ?_
          refine TZ_keepH [0, 3, 20, 24, 25, 26, 27, 29, 30] [0, 1, 11, 572] rfl rfl rfl rfl (by rw [hF]; rfl) ?_
          exact hS11_2
      refine TZ_each [4, 5] (by kernel_rfl) rfl ?_
      refine ⟨?_, ?_⟩
      · refine ⟨_, rfl, ?_⟩
        refine TL_pure rfl rfl rfl rfl (op_load_one ag59 rfl rfl) ?_
        refine TL_nil ?_
        refine TZ_keepH [0, 3, 20, 24, 25, 26, 27, 28] [0, 1, 11] rfl rfl rfl rfl (by rw [hF]; rfl) ?_
        exact hS11_0
      · refine ⟨_, rfl, ?_⟩
        refine TL_pure rfl rfl rfl rfl (op_load_agg ag140 sz140 rfl rfl rfl) ?_
        refine TL_nil ?_
        refine TZ_keepH [0, 3, 20, 24, 25, 26, 27, 29] [0, 1, 11] rfl rfl rfl rfl (by rw [hF]; rfl) ?_
        exact hS11_3
  · refine T_drawZ [] mix (by kernel_rfl) rfl ?_
    obtain ⟨r9, hr9, hm⟩ := bindS hm
    refine TZ_pure 0 (by kernel_rfl) rfl rfl rfl rfl rfl (op_move rfl) ?_
    refine TZ_pure 1 (by kernel_rfl) rfl rfl rfl rfl rfl (op_nilCheck rfl rfl) ?_
    refine TZ_pure 2 (by kernel_rfl) rfl rfl rfl rfl rfl (op_fieldAddr fa115_1 rfl rfl) ?_
    refine TZ_pure 3 (by kernel_rfl) rfl rfl rfl rfl rfl (op_load_one ag59 rfl rfl) ?_
    refine TZ_pure 4 (by kernel_rfl) rfl rfl rfl rfl rfl (op_lenO Try.underlying59 rfl rfl (List.length_map _)) ?_
    refine TZ_fact (fun _ _ _ hr => RelP.owLen (id := 1) rfl hr) (fun hlen8 => ?_)
    rw [List.length_map] at hlen8
    refine TZ_pure 6 (by kernel_rfl) rfl rfl rfl rfl rfl (op_move rfl) ?_
    refine TZ_pure 7 (by kernel_rfl) rfl rfl rfl rfl rfl (op_nilCheck rfl rfl) ?_
    refine TZ_pure 8 (by kernel_rfl) rfl rfl rfl rfl rfl (op_fieldAddr fa115_0 rfl rfl) ?_
    refine TZ_pure 9 (by kernel_rfl) rfl rfl rfl rfl rfl (op_load_one ag2 rfl rfl) ?_
    refine TZ_one 5 (by kernel_rfl) rfl ?_
    refine TL_callF (ACall.F (F := F) (c_impl_size (p0.nodes.length : Int) r9 hr9)) Try.call104 rfl rfl rfl rfl rfl ?_
    refine TL_nil ?_
    refine TZ_pure 10 (by kernel_rfl) rfl rfl rfl rfl rfl (op_eql rfl rfl) ?_
    refine TZ_pure 11 (by kernel_rfl) rfl rfl rfl rfl rfl (op_move rfl) ?_
    refine TZ_split 15 rfl rfl rfl (fun hq => ?_) (fun hq => ?_)
    · replace hm := condT hq hm
      refine TZ_pass 12 (by kernel_rfl) rfl rfl rfl rfl rfl rfl rfl rfl ?_
      refine TZ_pass 13 (by kernel_rfl) rfl rfl rfl rfl rfl rfl rfl rfl ?_
      refine TZ_one 14 (by kernel_rfl) rfl ?_
      refine TL_pass rfl rfl rfl rfl rfl rfl rfl ?_
      refine TL_nil ?_
      refine TZ_pass 15 (by kernel_rfl) rfl rfl rfl rfl rfl rfl rfl rfl ?_
      refine TZ_pure 16 (by kernel_rfl) rfl rfl rfl rfl rfl (op_pick_true rfl rfl) ?_
      refine TZ_done (by kernel_rfl) ?_
      refine T_keepH [0, 3, 20] [0, 1, 11] rfl rfl rfl rfl (by rw [hF]; rfl) ?_
      exact hj0 true hm
    · replace hm := condF hq hm
      obtain ⟨r18, hr18, hm⟩ := bindS hm
      refine TZ_pureW 12 (by kernel_rfl) rfl rfl rfl rfl rfl rfl rfl (op_fieldAddr fa140_3 rfl rfl) ?_
      refine TZ_pureW 13 (by kernel_rfl) rfl rfl rfl rfl rfl rfl rfl (op_load_one ag26 rfl rfl) ?_
      refine TZ_one 14 (by kernel_rfl) rfl ?_
      refine TL_want rfl rfl ?_
      refine TL_callF (ACall.F (F := F) (c_impl_allWithin p1.Multipliers (0 : Int) (1000000 : Int) r18 hr18)) Try.call98 rfl rfl rfl rfl rfl ?_
      refine TL_nil ?_
      refine TZ_pureW 15 (by kernel_rfl) rfl rfl rfl rfl rfl rfl rfl (op_not rfl) ?_
      refine TZ_pure 16 (by kernel_rfl) rfl rfl rfl rfl rfl (op_pick_false rfl rfl) ?_
      refine TZ_done (by kernel_rfl) ?_
      refine T_keepH [0, 3, 20] [0, 1, 11] rfl rfl rfl rfl (by rw [hF]; rfl) ?_
      exact hj0 (!r18) hm
theorem c_impl_with (p0 : List Term) (p1 : Term) (out : List Term) (hm : m_impl_with p0 p1 = some out) : ACall Try.prog 72 [.sl 2 (List.map a_Term p0), .agg [.int .i64 p1.Const, .sl 1 (List.map a_i64 p1.Coeffs)]] [] (.sl 2 (List.map a_Term out)) [] := by
  refine ACall.intro Try.func72 rfl Try.ntmps72 rfl (fun F hF => ?_)
  unfold m_impl_with at hm
  refine T_seq ?_
  refine T_region ?_
  refine TL_box 11 rfl rfl rfl rfl rfl rfl rfl ?_
  refine TL_pure rfl rfl rfl rfl (op_assign rfl) ?_
  refine TL_nil ?_
  refine T_seq ?_
  refine T_drawZ [3, 4] mix (by kernel_rfl) rfl ?_
  obtain ⟨r6, hr6, hm⟩ := bindS hm
  obtain ⟨q9, hq9, hm⟩ := bindS hm
  refine TZ_pure 0 (by kernel_rfl) rfl rfl rfl rfl rfl (op_move rfl) ?_
  refine TZ_cut 4 [true, true, false, false, false, false] ⟨[(0, .sl 2 (List.map a_Term p0)), (1, .agg [.int .i64 p1.Const, .sl 1 (List.map a_i64 p1.Coeffs)]), (3, .ptr 11 0 0), (4, .snil), (5, .sl 2 (List.map a_Term p0)), (6, .ow 172)], [(11, .box [.int .i64 p1.Const, .sl 1 (List.map a_i64 p1.Coeffs)]), (172, .arr ⟨false, false⟩ 2 41 (List.map a_Term r6))]⟩ ?_ (fun hS11_0 => ?_)
  · refine TZ_one 2 (by kernel_rfl) rfl ?_
    refine TL_pure rfl rfl rfl rfl (op_load_agg ag41 sz41 rfl rfl rfl) ?_
    refine TL_nil ?_
    refine TZ_one 3 (by kernel_rfl) rfl ?_
    refine TL_buildSlice 332 (es := List.map a_Term [p1]) el24 z41 rfl rfl rfl rfl rfl rfl rfl rfl rfl ?_
    refine TL_nil ?_
    refine TZ_one 4 (by kernel_rfl) rfl ?_
    refine TL_appendT (f := a_Term) (a := r6) (b := [p1]) el24 z41 rfl rfl rfl rfl rfl rfl rfl (capI_spec hq9) rfl rfl rfl rfl rfl ?_
    refine TL_nil ?_
    refine TZ_pure 5 (by kernel_rfl) rfl rfl rfl rfl rfl (op_assign rfl) ?_
    refine TZ_done (by kernel_rfl) ?_
    refine T_keepH [4] [172] rfl rfl rfl rfl (by rw [hF]; rfl) ?_
    refine T_freeze 172 (by rw [hF]; rfl) rfl rfl rfl ?_
    refine T_ret ?_
    obtain rfl := someI hm
    refine ⟨[_], [], ⟨rfl, trivial⟩, ?_, rfl, rfl, rfl, rfl⟩
    rfl
  refine TZ_cut 3 [true, true, true, false, false, false] ⟨[(0, .sl 2 (List.map a_Term p0)), (1, .agg [.int .i64 p1.Const, .sl 1 (List.map a_i64 p1.Coeffs)]), (3, .ptr 11 0 0), (4, .snil), (5, .sl 2 (List.map a_Term p0)), (6, .ow 172), (7, .agg [.int .i64 p1.Const, .sl 1 (List.map a_i64 p1.Coeffs)])], [(11, .box [.int .i64 p1.Const, .sl 1 (List.map a_i64 p1.Coeffs)]), (172, .arr ⟨false, false⟩ 2 41 (List.map a_Term r6))]⟩ ?_ (fun hS11_1 => ?_)
  · refine TZ_one 3 (by kernel_rfl) rfl ?_
    refine TL_buildSlice 332 (es := List.map a_Term [p1]) el24 z41 rfl rfl rfl rfl rfl rfl rfl rfl rfl ?_
    refine TL_nil ?_
    refine TZ_one 4 (by kernel_rfl) rfl ?_
    refine TL_appendT (f := a_Term) (a := r6) (b := [p1]) el24 z41 rfl rfl rfl rfl rfl rfl rfl (capI_spec hq9) rfl rfl rfl rfl rfl ?_
    refine TL_nil ?_
    refine TZ_pure 5 (by kernel_rfl) rfl rfl rfl rfl rfl (op_assign rfl) ?_
    refine TZ_done (by kernel_rfl) ?_
    refine T_keepH [4] [172] rfl rfl rfl rfl (by rw [hF]; rfl) ?_
    refine T_freeze 172 (by rw [hF]; rfl) rfl rfl rfl ?_
    refine T_ret ?_
    obtain rfl := someI hm
    refine ⟨[_], [], ⟨rfl, trivial⟩, ?_, rfl, rfl, rfl, rfl⟩
    rfl
  refine TZ_cut 3 [true, false, true, true, false, false] ⟨[(0, .sl 2 (List.map a_Term p0)), (1, .agg [.int .i64 p1.Const, .sl 1 (List.map a_i64 p1.Coeffs)]), (3, .ptr 11 0 0), (4, .snil), (5, .sl 2 (List.map a_Term p0)), (7, .agg [.int .i64 p1.Const, .sl 1 (List.map a_i64 p1.Coeffs)]), (8, .ow 332)], [(11, .box [.int .i64 p1.Const, .sl 1 (List.map a_i64 p1.Coeffs)]), (332, .arr ⟨false, false⟩ 2 41 (List.map a_Term [p1]))]⟩ ?_ (fun hS11_2 => ?_)
  · refine TZ_one 1 (by kernel_rfl) rfl ?_
    refine TLE_call [] [(1000, 172)] [] (ACall.F (F := F) (c_slices_Clone_impl_Term_impl_Term p0 r6 hr6)) (fun _ => rfl) Try.call88 rfl rfl rfl rfl rfl trivial rfl rfl rfl rfl rfl rfl rfl rfl rfl rfl rfl ?_
    refine TL_nil ?_
    refine TZ_one 4 (by kernel_rfl) rfl ?_
    refine TL_appendT (f := a_Term) (a := r6) (b := [p1]) el24 z41 rfl rfl rfl rfl rfl rfl rfl (capI_spec hq9) rfl rfl rfl rfl rfl ?_
    refine TL_nil ?_
    refine TZ_pure 5 (by kernel_rfl) rfl rfl rfl rfl rfl (op_assign rfl) ?_
    refine TZ_done (by kernel_rfl) ?_
    refine T_keepH [4] [172] rfl rfl rfl rfl (by rw [hF]; rfl) ?_
    refine T_freeze 172 (by rw [hF]; rfl) rfl rfl rfl ?_
    refine T_ret ?_
    obtain rfl := someI hm
    refine ⟨[_], [], ⟨rfl, trivial⟩, ?_, rfl, rfl, rfl, rfl⟩
    rfl
  refine TZ_cut 4 [true, false, true, false, false, false] ⟨[(0, .sl 2 (List.map a_Term p0)), (1, .agg [.int .i64 p1.Const, .sl 1 (List.map a_i64 p1.Coeffs)]), (3, .ptr 11 0 0), (4, .snil), (5, .sl 2 (List.map a_Term p0)), (7, .agg [.int .i64 p1.Const, .sl 1 (List.map a_i64 p1.Coeffs)])], [(11, .box [.int .i64 p1.Const, .sl 1 (List.map a_i64 p1.Coeffs)])]⟩ ?_ (fun hS11_3 => ?_)
  · refine TZ_each [1, 3] (by kernel_rfl) rfl ?_
    refine ⟨?_, ?_⟩
    · refine ⟨_, rfl, ?_⟩
      refine TLE_call [] [(1000, 172)] [] (ACall.F (F := F) (c_slices_Clone_impl_Term_impl_Term p0 r6 hr6)) (fun _ => rfl) Try.call88 rfl rfl rfl rfl rfl trivial rfl rfl rfl rfl rfl rfl rfl rfl rfl rfl rfl ?_
      refine TL_nil ?_
      refine TZ_keepH [0, 1, 3, 4, 5, 6, 7] [11, 172] rfl rfl rfl rfl (by rw [hF]; rfl) ?_
      exact hS11_1
    · refine ⟨_, rfl, ?_⟩
      refine TL_buildSlice 332 (es := List.map a_Term [p1]) el24 z41 rfl rfl rfl rfl rfl rfl rfl rfl rfl ?_
      refine TL_nil ?_
      refine TZ_keepH [0, 1, 3, 4, 5, 7, 8] [11, 332] rfl rfl rfl rfl (by rw [hF]; rfl) ?_
      exact hS11_2
  refine TZ_each [1, 2] (by kernel_rfl) rfl ?_
  refine ⟨?_, ?_⟩
  · refine ⟨_, rfl, ?_⟩
    refine TLE_call [] [(1000, 172)] [] (ACall.F (F := F) (c_slices_Clone_impl_Term_impl_Term p0 r6 hr6)) (fun _ => rfl) Try.call88 rfl rfl rfl rfl rfl trivial rfl rfl rfl rfl rfl rfl rfl rfl rfl rfl rfl ?_
    refine TL_nil ?_
    refine TZ_keepH [0, 1, 3, 4, 5, 6] [11, 172] rfl rfl rfl rfl (by rw [hF]; rfl) ?_
    exact hS11_0
  · refine ⟨_, rfl, ?_⟩
    refine TL_pure rfl rfl rfl rfl (op_load_agg ag41 sz41 rfl rfl rfl) ?_
    refine TL_nil ?_
    refine TZ_keepH [0, 1, 3, 4, 5, 7] [11] rfl rfl rfl rfl (by rw [hF]; rfl) ?_
    exact hS11_3
theorem c_impl_proving_add (p0 : proving) (p1 : List Term) (p2 : Term) (out : (List Term) × proving) (hm : m_impl_proving_add p0 p1 p2 = some out) : ACall Try.prog 114 [.ptr 0 0 0, .sl 2 (List.map a_Term p1), .agg [.int .i64 p2.Const, .sl 1 (List.map a_i64 p2.Coeffs)]] [(0, .box [.int .i64 p0.budget, .ow 1, .bool p0.failed]), (1, .arr ⟨false, false⟩ 5 140 (List.map a_Node p0.nodes))] (.sl 2 (List.map a_Term out.1)) [(0, .box [.int .i64 out.2.budget, .ow 1, .bool out.2.failed]), (1, .arr ⟨false, false⟩ 5 140 (List.map a_Node out.2.nodes))] := by
  refine ACall.intro Try.func114 rfl Try.ntmps114 rfl (fun F hF => ?_)
  unfold m_impl_proving_add at hm
  refine T_seq ?_
  refine T_region ?_
  refine TL_box 11 rfl rfl rfl rfl rfl rfl rfl ?_
  refine TL_pure rfl rfl rfl rfl (op_assign rfl) ?_
  refine TL_nil ?_
  refine T_seq ?_
  refine T_seq ?_
  refine T_region ?_
  refine TL_pure rfl rfl rfl rfl (op_move rfl) ?_
  refine TL_pure rfl rfl rfl rfl (op_lenT Try.underlying24 rfl (List.length_map _)) ?_
  refine TL_fact (fun _ _ _ hr => RelP.slLen (i := 7) rfl hr) (fun hlen8 => ?_)
  rw [List.length_map] at hlen8
  refine TL_pure rfl rfl rfl rfl (op_eql rfl rfl) ?_
  refine TL_nil ?_
  refine T_cond rfl (fun hq => ?_) (fun hq => ?_)
  · replace hm := condT hq hm
    refine T_region ?_
    refine TL_pure rfl rfl rfl rfl (op_move rfl) ?_
    refine TL_pure rfl rfl rfl rfl (op_nilCheck rfl rfl) ?_
    refine TL_pure rfl rfl rfl rfl (op_fieldAddr fa115_2 rfl rfl) ?_
    refine TL_store_box sz4 rfl rfl rfl rfl rfl rfl rfl rfl rfl ?_
    refine TL_nil ?_
    refine T_seq ?_
    refine T_region ?_
    refine TL_pure rfl rfl rfl rfl (op_move rfl) ?_
    refine TL_pure rfl rfl rfl rfl (op_load_agg ag41 sz41 rfl rfl rfl) ?_
    obtain ⟨r15, hr15, hm⟩ := bindS hm
    refine TL_callT (ACall.F (F := F) (c_impl_with p1 p2 r15 hr15)) Try.call72 rfl rfl rfl rfl rfl ?_
    refine TL_pure rfl rfl rfl rfl (op_assign rfl) ?_
    refine TL_nil ?_
    refine T_keepH [6] [0, 1] rfl rfl rfl rfl (by rw [hF]; rfl) ?_
    refine T_ret ?_
    obtain rfl := someI hm
    refine ⟨[_], [0, 1], ⟨rfl, trivial⟩, ?_, rfl, rfl, rfl, rfl⟩
    rfl
  · replace hm := condF hq hm
    refine T_skip ?_
    refine T_seq ?_
    refine T_region ?_
    refine TL_pure rfl rfl rfl rfl (op_move rfl) ?_
    refine TL_pure rfl rfl rfl rfl (op_load_agg ag41 sz41 rfl rfl rfl) ?_
    obtain ⟨r15, hr15, hm⟩ := bindS hm
    refine TL_callT (ACall.F (F := F) (c_impl_with p1 p2 r15 hr15)) Try.call72 rfl rfl rfl rfl rfl ?_
    refine TL_pure rfl rfl rfl rfl (op_assign rfl) ?_
    refine TL_nil ?_
    refine T_keepH [6] [0, 1] rfl rfl rfl rfl (by rw [hF]; rfl) ?_
    refine T_ret ?_
    obtain rfl := someI hm
    refine ⟨[_], [0, 1], ⟨rfl, trivial⟩, ?_, rfl, rfl, rfl, rfl⟩
    rfl
theorem c_impl_ValidFacts (p0 : List Term) (out : Bool) (hm : m_impl_ValidFacts p0 = some out) : ACall Try.prog 48 [.sl 2 (List.map a_Term p0)] [] (.bool out) [] := by
  refine ACall.intro Try.func48 rfl Try.ntmps48 rfl (fun F hF => ?_)
  unfold m_impl_ValidFacts at hm
  refine T_seq ?_
  refine T_region ?_
  refine TL_pure rfl rfl rfl rfl (op_assign rfl) ?_
  refine TL_nil ?_
  refine T_seq ?_
  refine T_region ?_
  refine TL_pure rfl rfl rfl rfl (op_move rfl) ?_
  obtain ⟨r4, hr4, hm⟩ := bindS hm
  refine TL_callF (ACall.F (F := F) (c_impl_areTerms p0 (14 : Int) r4 hr4)) Try.call67 rfl rfl rfl rfl rfl ?_
  refine TL_pure rfl rfl rfl rfl (op_assign rfl) ?_
  refine TL_nil ?_
  refine T_keepH [2] [] rfl rfl rfl rfl (by rw [hF]; rfl) ?_
  refine T_ret ?_
  obtain rfl := someI hm
  refine ⟨[_], [], ⟨rfl, trivial⟩, ?_, rfl, rfl, rfl, rfl⟩
  rfl
theorem c_impl_allSymbols (p0 : Int) (out : List Int) (hm : m_impl_allSymbols p0 = some out) : ACall Try.prog 50 [.int .i64 p0] [] (.ow 1000) [(1000, .arr ⟨false, true⟩ 1 3 (List.map a_i64 out))] := by
  refine ACall.intro Try.func50 rfl Try.ntmps50 rfl (fun F hF => ?_)
  unfold m_impl_allSymbols at hm
  refine T_seq ?_
  refine T_region ?_
  refine TL_pure rfl rfl rfl rfl (op_assign rfl) ?_
  refine TL_nil ?_
  refine T_seq ?_
  refine T_region ?_
  refine TL_pure rfl rfl rfl rfl (op_assign rfl) ?_
  refine TL_nil ?_
  refine T_seq ?_
  refine T_seq ?_
  refine T_region ?_
  refine TL_pure rfl rfl rfl rfl (op_move rfl) ?_
  refine TL_pure rfl rfl rfl rfl (op_move rfl) ?_
  refine TL_nil ?_
  refine T_block ?_
  refine T_ownNil 3 15 ⟨false, false⟩ 3 rfl rfl (sz := 1) rfl rfl rfl ?_
  refine T_keepH [3, 5, 6] [15] rfl rfl rfl rfl (by rw [hF]; rfl) ?_
  refine T_ren [(15, 12)] rfl rfl rfl (by rw [hF]; rfl) ?_
  refine T_loop ?_
  obtain ⟨u0, hl0, hm⟩ := bindS hm
  refine TR_iter2 (m_impl_allSymbols_L0 p0) (fun (s0 : (List Int) × Int) => ⟨[(3, .ow 12), (5, .int .i64 p0), (6, .int .i64 s0.2)], [(12, .arr ⟨false, false⟩ 1 3 (List.map a_i64 s0.1))]⟩) (fun u0 => .exit 0) (fun u0 => ⟨[(3, .ow 12)], [(12, .arr ⟨false, false⟩ 1 3 (List.map a_i64 u0))]⟩) (fun u0 => m_impl_allSymbols_A0 u0 = some out) hl0 hm (fun u0 hm => ?_) (fun hx0 s0 c0 hm hc0 => ?_)
  · unfold m_impl_allSymbols_A0 at hm
    refine T_seq ?_
    refine T_region ?_
    refine TL_pure rfl rfl rfl rfl (op_move rfl) ?_
    refine TL_pure rfl rfl rfl rfl (op_assign rfl) ?_
    refine TL_nil ?_
    refine T_keepH [2] [12] rfl rfl rfl rfl (by rw [hF]; rfl) ?_
    refine T_deepen 12 (p' := false) (List.map a_i64 u0) (by rw [hF]; rfl) rfl (ElR.map (f := a_i64) (g := a_i64) (fun _ => ⟨⟨rfl, rfl⟩, trivial⟩) u0) rfl rfl rfl ?_
    refine T_ren [(12, 1000)] rfl rfl rfl (by rw [hF]; rfl) ?_
    refine T_ret ?_
    obtain rfl := someI hm
    refine ⟨[_], [1000], ⟨rfl, trivial⟩, ?_, rfl, rfl, rfl, rfl⟩
    rfl
  · unfold m_impl_allSymbols_L0 at hm
    refine T_seq ?_
    refine T_region ?_
    refine TL_pure rfl rfl rfl rfl (op_lss rfl rfl) ?_
    refine TL_nil ?_
    refine T_seq ?_
    refine T_cond rfl (fun hq => ?_) (fun hq => ?_)
    · replace hm := condT hq hm
      refine T_skip ?_
      refine T_seq ?_
      refine T_block ?_
      refine T_seq ?_
      refine T_region ?_
      refine TL_pure rfl rfl rfl rfl (op_move rfl) ?_
      refine TL_pure rfl rfl rfl rfl (op_assign rfl) ?_
      refine TL_nil ?_
      refine T_region ?_
      refine TL_pure rfl rfl rfl rfl (op_move rfl) ?_
      refine TL_pure rfl rfl rfl rfl (op_move rfl) ?_
      refine TL_buildSlice 14 (es := List.map a_i64 [s0.2]) el74 z3 rfl rfl rfl rfl rfl rfl rfl rfl rfl ?_
      obtain ⟨q12, hq12, hm⟩ := bindS hm
      refine TL_appendT (f := a_i64) (a := s0.1) (b := [s0.2]) el74 z3 rfl rfl rfl rfl rfl rfl rfl (capI_spec hq12) rfl rfl rfl rfl rfl ?_
      refine TL_pure rfl rfl rfl rfl (op_assign rfl) ?_
      refine TL_nil ?_
      refine T_region ?_
      refine TL_pure rfl rfl rfl rfl (op_addW rfl rfl) ?_
      refine TL_pure rfl rfl rfl rfl (op_move rfl) ?_
      refine TL_nil ?_
      refine TR_keepH [3, 5, 6] [12] rfl rfl rfl rfl (by rw [hF]; rfl) ?_
      obtain rfl := someI hm
      have hn := CtlOK_next hc0
      exact hn _ rfl
    · replace hm := condF hq hm
      refine T_keepH [3] [12] rfl rfl rfl rfl (by rw [hF]; rfl) ?_
      refine T_exit ?_
      obtain rfl := someI hm
      have hn := CtlOK_out hc0
      exact hx0 s0.1 hn
theorem c_impl_cancelled (p0 : combination) (p1 : combination) (p2 : Int) (out : combination × Bool) (hm : m_impl_cancelled p0 p1 p2 = some out) : ACall Try.prog 96 [.agg [.int .i64 p0.term.Const, .sl 1 (List.map a_i64 p0.term.Coeffs), .sl 1 (List.map a_i64 p0.by_)], .agg [.int .i64 p1.term.Const, .sl 1 (List.map a_i64 p1.term.Coeffs), .sl 1 (List.map a_i64 p1.by_)], .int .i64 p2] [] (.tup [.agg [.int .i64 out.1.term.Const, .ow 1000, .ow 1001], .bool out.2]) [(1000, .arr ⟨false, true⟩ 1 2 (List.map a_i64 out.1.term.Coeffs)), (1001, .arr ⟨false, true⟩ 1 2 (List.map a_i64 out.1.by_))] := by
  refine ACall.intro Try.func96 rfl Try.ntmps96 rfl (fun F hF => ?_)
  unfold m_impl_cancelled at hm
  refine T_seq ?_
  refine T_region ?_
  refine TL_box 11 rfl rfl rfl rfl rfl rfl rfl ?_
  refine TL_box 12 rfl rfl rfl rfl rfl rfl rfl ?_
  refine TL_alloc 13 z77 rfl rfl rfl rfl rfl rfl rfl ?_
  refine TL_pure rfl rfl rfl rfl (op_assign rfl) ?_
  refine TL_nil ?_
  refine T_seq ?_
  refine T_drawZ [] mix (by kernel_rfl) rfl ?_
  obtain ⟨r19, hr19, hm⟩ := bindS hm
  obtain ⟨r23, hr23, hm⟩ := bindS hm
  refine TZ_pure 0 (by kernel_rfl) rfl rfl rfl rfl rfl (op_fieldAddr fa77_0 rfl rfl) ?_
  refine TZ_pure 1 (by kernel_rfl) rfl rfl rfl rfl rfl (op_load_agg ag41 sz41 rfl rfl rfl) ?_
  refine TZ_pure 2 (by kernel_rfl) rfl rfl rfl rfl rfl (op_move rfl) ?_
  refine TZ_pure 4 (by kernel_rfl) rfl rfl rfl rfl rfl (op_fieldAddr fa77_0 rfl rfl) ?_
  refine TZ_pure 5 (by kernel_rfl) rfl rfl rfl rfl rfl (op_load_agg ag41 sz41 rfl rfl rfl) ?_
  refine TZ_pure 6 (by kernel_rfl) rfl rfl rfl rfl rfl (op_move rfl) ?_
  refine TZ_one 3 (by kernel_rfl) rfl ?_
  refine TL_callF (ACall.F (F := F) (c_impl_Term_coeff p0.term p2 r19 hr19)) Try.call69 rfl rfl rfl rfl rfl ?_
  refine TL_nil ?_
  refine TZ_one 7 (by kernel_rfl) rfl ?_
  refine TL_callF (ACall.F (F := F) (c_impl_Term_coeff p1.term p2 r23 hr23)) Try.call69 rfl rfl rfl rfl rfl ?_
  refine TL_nil ?_
  refine TZ_pure 8 (by kernel_rfl) rfl rfl rfl rfl rfl (op_negW rfl) ?_
  refine TZ_pure 9 (by kernel_rfl) rfl rfl rfl rfl rfl (op_assign rfl) ?_
  refine TZ_pure 10 (by kernel_rfl) rfl rfl rfl rfl rfl (op_assign rfl) ?_
  refine TZ_done (by kernel_rfl) ?_
  refine T_seq ?_
  refine T_region ?_
  refine TL_pure rfl rfl rfl rfl (op_move rfl) ?_
  refine TL_pure rfl rfl rfl rfl (op_move rfl) ?_
  refine TL_buildSlice 14 (es := List.map a_i64 [r19, (w64 (0 - r23))]) el26 z2 rfl rfl rfl rfl rfl rfl rfl rfl rfl ?_
  obtain ⟨r28, hr28, hm⟩ := bindS hm
  refine TL_callF (ACall.F (F := F) (c_impl_gcd [r19, (w64 (0 - r23))] r28 hr28)) Try.call115 rfl rfl rfl rfl rfl ?_
  refine TL_pure rfl rfl rfl rfl (op_assign rfl) ?_
  refine TL_nil ?_
  refine T_seq ?_
  refine T_drawZ [] mix (by kernel_rfl) rfl ?_
  obtain ⟨q31, hq31, hm⟩ := bindS hm
  obtain ⟨q34, hq34, hm⟩ := bindS hm
  refine TZ_pure 0 (by kernel_rfl) rfl rfl rfl rfl rfl (op_move rfl) ?_
  refine TZ_pure 1 (by kernel_rfl) rfl rfl rfl rfl rfl (op_move rfl) ?_
  refine TZ_pure 2 (by kernel_rfl) rfl rfl rfl rfl rfl (op_quoT rfl rfl hq31) ?_
  refine TZ_pure 3 (by kernel_rfl) rfl rfl rfl rfl rfl (op_move rfl) ?_
  refine TZ_pure 4 (by kernel_rfl) rfl rfl rfl rfl rfl (op_move rfl) ?_
  refine TZ_pure 5 (by kernel_rfl) rfl rfl rfl rfl rfl (op_quoT rfl rfl hq34) ?_
  refine TZ_pure 6 (by kernel_rfl) rfl rfl rfl rfl rfl (op_assign rfl) ?_
  refine TZ_pure 7 (by kernel_rfl) rfl rfl rfl rfl rfl (op_assign rfl) ?_
  refine TZ_done (by kernel_rfl) ?_
  refine T_seq ?_
  refine T_region ?_
  refine TL_pure rfl rfl rfl rfl (op_fieldAddr fa77_0 rfl rfl) ?_
  refine TL_pure rfl rfl rfl rfl (op_load_agg ag41 sz41 rfl rfl rfl) ?_
  refine TL_pure rfl rfl rfl rfl (op_fieldAddr fa77_0 rfl rfl) ?_
  refine TL_pure rfl rfl rfl rfl (op_load_agg ag41 sz41 rfl rfl rfl) ?_
  refine TL_buildSlice 15 (es := List.map a_Term [p0.term, p1.term]) el24 z41 rfl rfl rfl rfl rfl rfl rfl rfl rfl ?_
  refine TL_pure rfl rfl rfl rfl (op_move rfl) ?_
  refine TL_pure rfl rfl rfl rfl (op_move rfl) ?_
  refine TL_buildSlice 16 (es := List.map a_i64 [q34, q31]) el26 z2 rfl rfl rfl rfl rfl rfl rfl rfl rfl ?_
  obtain ⟨r43, hr43, hm⟩ := bindS hm
  refine TL_callO [(1000, 17)] (ACall.F (F := F) (c_impl_combined [p0.term, p1.term] [q34, q31] r43 hr43)) Try.call70 rfl rfl rfl rfl rfl rfl rfl rfl rfl rfl rfl rfl rfl ?_
  refine TL_alloc 18 z41 rfl rfl rfl rfl rfl rfl rfl ?_
  refine TL_store_box sz41 rfl rfl rfl rfl rfl rfl rfl rfl rfl ?_
  refine TL_nil ?_
  refine T_seq ?_
  refine T_region ?_
  refine TL_pure rfl rfl rfl rfl (op_assign rfl) ?_
  refine TL_nil ?_
  refine T_seq ?_
  refine T_seq ?_
  refine T_region ?_
  refine TL_pure rfl rfl rfl rfl (op_fieldAddr fa77_1 rfl rfl) ?_
  refine TL_pure rfl rfl rfl rfl (op_load_one ag26 rfl rfl) ?_
  refine TL_pure rfl rfl rfl rfl (op_lenT Try.underlying26 rfl (List.length_map _)) ?_
  refine TL_fact (fun _ _ _ hr => RelP.slLen (i := 45) rfl hr) (fun hlen46 => ?_)
  rw [List.length_map] at hlen46
  refine TL_pure rfl rfl rfl rfl (op_move rfl) ?_
  refine TL_nil ?_
  refine T_block ?_
  refine T_ownNil 12 4580 ⟨false, false⟩ 2 rfl rfl (sz := 1) rfl rfl rfl ?_
  refine T_keepH [3, 4, 6, 8, 9, 11, 12, 46, 47] [11, 12, 13, 17, 18, 4580] rfl rfl rfl rfl (by rw [hF]; rfl) ?_
  refine T_ren [(11, 11), (12, 12), (13, 13), (17, 17), (18, 18), (4580, 1459)] rfl rfl rfl (by rw [hF]; rfl) ?_
  refine T_loop ?_
  obtain ⟨u0, hl0, hm⟩ := bindS hm
  refine TR_forL2 p0.by_ (m_impl_cancelled_L0 p1 q31 q34) (fun (s0 : List Int) => s0) (fun n0 (s0 : List Int) => ⟨[(3, .ptr 11 0 0), (4, .ptr 12 0 0), (6, .ptr 13 0 0), (8, .int .i64 q31), (9, .int .i64 q34), (11, .ptr 18 0 0), (12, .ow 1459), (46, .int .i64 (p0.by_.length : Int)), (47, .int .i64 (n0 : Int))], [(11, .box [.int .i64 p0.term.Const, .sl 1 (List.map a_i64 p0.term.Coeffs), .sl 1 (List.map a_i64 p0.by_)]), (12, .box [.int .i64 p1.term.Const, .sl 1 (List.map a_i64 p1.term.Coeffs), .sl 1 (List.map a_i64 p1.by_)]), (13, .box [.int .i64 (0 : Int), .snil, .snil]), (17, .arr ⟨false, true⟩ 1 2 (List.map a_i64 r43.Coeffs)), (18, .box [.int .i64 r43.Const, .ow 17]), (1459, .arr ⟨false, false⟩ 1 2 (List.map a_i64 s0))]⟩) (fun u0 => .exit 0) (fun u0 => ⟨[(6, .ptr 13 0 0), (11, .ptr 18 0 0), (12, .ow 1459)], [(13, .box [.int .i64 (0 : Int), .snil, .snil]), (17, .arr ⟨false, true⟩ 1 2 (List.map a_i64 r43.Coeffs)), (18, .box [.int .i64 r43.Const, .ow 17]), (1459, .arr ⟨false, false⟩ 1 2 (List.map a_i64 u0))]⟩) (fun u0 => m_impl_cancelled_A0 r43 u0 = some out) hl0 hm (fun u0 hm => ?_) (fun hx0 s0 hm => ?_) (fun hx0 n0 x0 s0 c0 hxn0 hlt0 hm hc0 => ?_)
  · unfold m_impl_cancelled_A0 at hm
    refine T_seq ?_
    refine T_region ?_
    refine TL_pure rfl rfl rfl rfl (op_fieldAddr fa41_0 rfl rfl) ?_
    refine TL_pure rfl rfl rfl rfl (op_load_one ag2 rfl rfl) ?_
    refine TL_buildSlice 4579 (es := List.map a_i64 [r43.Const]) el26 z2 rfl rfl rfl rfl rfl rfl rfl rfl rfl ?_
    refine TL_pure rfl rfl rfl rfl (op_fieldAddr fa41_1 rfl rfl) ?_
    refine TL_pure rfl rfl rfl rfl (op_load_one ag26 rfl rfl) ?_
    refine TL_undeep 17 (p' := false) (by rw [hF]; rfl) rfl (ElR.map (f := a_i64) (g := a_i64) (fun _ => ⟨⟨rfl, rfl⟩, trivial⟩) r43.Coeffs) rfl ?_
    obtain ⟨q74, hq74, hm⟩ := bindS hm
    refine TL_appendT (f := a_i64) (a := [r43.Const]) (b := r43.Coeffs) el26 z2 rfl rfl rfl rfl rfl rfl rfl (capI_spec hq74) rfl rfl rfl rfl rfl ?_
    refine TL_pure rfl rfl rfl rfl (op_move rfl) ?_
    obtain ⟨q76, hq76, hm⟩ := bindS hm
    refine TL_appendT (f := a_i64) (a := ([r43.Const] ++ r43.Coeffs)) (b := u0) el26 z2 rfl rfl rfl rfl rfl rfl rfl (capI_spec hq76) rfl rfl rfl rfl rfl ?_
    obtain ⟨r77, hr77, hm⟩ := bindS hm
    refine TL_callF (ACall.F (F := F) (c_impl_gcd (([r43.Const] ++ r43.Coeffs) ++ u0) r77 hr77)) Try.call115 rfl rfl rfl rfl rfl ?_
    refine TL_pure rfl rfl rfl rfl (op_assign rfl) ?_
    refine TL_nil ?_
    refine T_seq ?_
    refine T_region ?_
    refine TL_pure rfl rfl rfl rfl (op_fieldAddr fa41_0 rfl rfl) ?_
    refine TL_pure rfl rfl rfl rfl (op_load_one ag2 rfl rfl) ?_
    refine TL_pure rfl rfl rfl rfl (op_move rfl) ?_
    obtain ⟨q81, hq81, hm⟩ := bindS hm
    refine TL_pure rfl rfl rfl rfl (op_quoT rfl rfl hq81) ?_
    refine TL_pure rfl rfl rfl rfl (op_fieldAddr fa41_0 rfl rfl) ?_
    refine TL_store_box sz2 rfl rfl rfl rfl rfl rfl rfl rfl rfl ?_
    refine TL_nil ?_
    refine T_seq ?_
    refine T_seq ?_
    refine T_region ?_
    refine TL_pure rfl rfl rfl rfl (op_fieldAddr fa41_1 rfl rfl) ?_
    refine TL_pure rfl rfl rfl rfl (op_load_one ag26 rfl rfl) ?_
    refine TL_pure rfl rfl rfl rfl (op_lenO Try.underlying26 rfl rfl (List.length_map _)) ?_
    refine TL_fact (fun _ _ _ hr => RelP.owLen (id := 17) rfl hr) (fun hlen85 => ?_)
    rw [List.length_map] at hlen85
    refine TL_pure rfl rfl rfl rfl (op_move rfl) ?_
    refine TL_nil ?_
    refine T_block ?_
    refine T_keepH [6, 10, 11, 12, 85, 86] [13, 17, 18, 1459] rfl rfl rfl rfl (by rw [hF]; rfl) ?_
    refine T_loop ?_
    obtain ⟨u1, hl1, hm⟩ := bindS hm
    refine TR_iter2 (m_impl_cancelled_L1 r43 r77) (fun (s1 : (List Int) × Int) => ⟨[(6, .ptr 13 0 0), (10, .int .i64 r77), (11, .ptr 18 0 0), (12, .ow 1459), (85, .int .i64 (r43.Coeffs.length : Int)), (86, .int .i64 s1.2)], [(13, .box [.int .i64 (0 : Int), .snil, .snil]), (17, .arr ⟨false, false⟩ 1 2 (List.map a_i64 s1.1)), (18, .box [.int .i64 q81, .ow 17]), (1459, .arr ⟨false, false⟩ 1 2 (List.map a_i64 u0))]⟩) (fun u1 => .exit 2) (fun u1 => ⟨[(6, .ptr 13 0 0), (10, .int .i64 r77), (11, .ptr 18 0 0), (12, .ow 1459)], [(13, .box [.int .i64 (0 : Int), .snil, .snil]), (17, .arr ⟨false, false⟩ 1 2 (List.map a_i64 u1)), (18, .box [.int .i64 q81, .ow 17]), (1459, .arr ⟨false, false⟩ 1 2 (List.map a_i64 u0))]⟩) (fun u1 => m_impl_cancelled_A1 u0 r77 q81 u1 = some out) hl1 hm (fun u1 hm => ?_) (fun hx1 s1 c1 hm hc1 => ?_)
    · unfold m_impl_cancelled_A1 at hm
      refine T_seq ?_
      refine T_seq ?_
      refine T_region ?_
      refine TL_pure rfl rfl rfl rfl (op_move rfl) ?_
      refine TL_pure rfl rfl rfl rfl (op_lenO Try.underlying26 rfl rfl (List.length_map _)) ?_
      refine TL_fact (fun _ _ _ hr => RelP.owLen (id := 1459) rfl hr) (fun hlen99 => ?_)
      rw [List.length_map] at hlen99
      refine TL_pure rfl rfl rfl rfl (op_move rfl) ?_
      refine TL_nil ?_
      refine T_block ?_
      refine T_keepH [6, 10, 11, 12, 99, 100] [13, 17, 18, 1459] rfl rfl rfl rfl (by rw [hF]; rfl) ?_
      refine T_loop ?_
      obtain ⟨u2, hl2, hm⟩ := bindS hm
      refine TR_iter2 (m_impl_cancelled_L2 u0 r77) (fun (s2 : (List Int) × Int) => ⟨[(6, .ptr 13 0 0), (10, .int .i64 r77), (11, .ptr 18 0 0), (12, .ow 1459), (99, .int .i64 (u0.length : Int)), (100, .int .i64 s2.2)], [(13, .box [.int .i64 (0 : Int), .snil, .snil]), (17, .arr ⟨false, false⟩ 1 2 (List.map a_i64 u1)), (18, .box [.int .i64 q81, .ow 17]), (1459, .arr ⟨false, false⟩ 1 2 (List.map a_i64 s2.1))]⟩) (fun u2 => .exit 4) (fun u2 => ⟨[(6, .ptr 13 0 0), (11, .ptr 18 0 0), (12, .ow 1459)], [(13, .box [.int .i64 (0 : Int), .snil, .snil]), (17, .arr ⟨false, false⟩ 1 2 (List.map a_i64 u1)), (18, .box [.int .i64 q81, .ow 17]), (1459, .arr ⟨false, false⟩ 1 2 (List.map a_i64 u2))]⟩) (fun u2 => m_impl_cancelled_A2 q81 u1 u2 = some out) hl2 hm (fun u2 hm => ?_) (fun hx2 s2 c2 hm hc2 => ?_)
      · unfold m_impl_cancelled_A2 at hm
        refine T_seq ?_
        refine T_drawZ [9] mix (by kernel_rfl) rfl ?_
        obtain ⟨r115, hr115, hm⟩ := bindS hm
        refine TZ_pure 0 (by kernel_rfl) rfl rfl rfl rfl rfl (op_load_agg ag41 sz41 rfl rfl rfl) ?_
        refine TZ_pure 1 (by kernel_rfl) rfl rfl rfl rfl rfl (op_move rfl) ?_
        refine TZ_pure 2 (by kernel_rfl) rfl rfl rfl rfl rfl (op_buildP pl77 z77 rfl rfl rfl rfl rfl) ?_
        refine TZ_one 3 (by kernel_rfl) rfl ?_
        refine TL_pure rfl rfl rfl rfl (op_load_agg ag41 sz41 rfl rfl rfl) ?_
        refine TL_nil ?_
        refine TZ_one 4 (by kernel_rfl) rfl ?_
        refine TL_callF (ACall.F (F := F) (c_impl_ValidTerm (Term.mk q81 u1) r115 hr115)) Try.call68 rfl rfl rfl rfl rfl ?_
        refine TL_nil ?_
        refine TZ_pure 5 (by kernel_rfl) rfl rfl rfl rfl rfl (op_move rfl) ?_
        refine TZ_split 116 rfl rfl rfl (fun hq => ?_) (fun hq => ?_)
        · replace hm := condT hq hm
          obtain ⟨r118, hr118, hm⟩ := bindS hm
          refine TZ_pureW 6 (by kernel_rfl) rfl rfl rfl rfl rfl rfl rfl (op_move rfl) ?_
          refine TZ_one 7 (by kernel_rfl) rfl ?_
          refine TL_want rfl rfl ?_
          refine TL_callF (ACall.F (F := F) (c_impl_allWithin u2 (-1000000 : Int) (1000000 : Int) r118 hr118)) Try.call98 rfl rfl rfl rfl rfl ?_
          refine TL_nil ?_
          refine TZ_pure 8 (by kernel_rfl) rfl rfl rfl rfl rfl (op_pick_true rfl rfl) ?_
          refine TZ_one 9 (by kernel_rfl) rfl ?_
          refine TL_store_box sz77 rfl rfl rfl rfl rfl rfl rfl rfl rfl ?_
          refine TL_nil ?_
          refine TZ_pure 10 (by kernel_rfl) rfl rfl rfl rfl rfl (op_assign rfl) ?_
          refine TZ_done (by kernel_rfl) ?_
          refine T_keepH [6, 7] [13, 17, 1459] rfl rfl rfl rfl (by rw [hF]; rfl) ?_
          refine T_deepen 17 (p' := false) (List.map a_i64 u1) (by rw [hF]; rfl) rfl (ElR.map (f := a_i64) (g := a_i64) (fun _ => ⟨⟨rfl, rfl⟩, trivial⟩) u1) rfl rfl rfl ?_
          refine T_deepen 1459 (p' := false) (List.map a_i64 u2) (by rw [hF]; rfl) rfl (ElR.map (f := a_i64) (g := a_i64) (fun _ => ⟨⟨rfl, rfl⟩, trivial⟩) u2) rfl rfl rfl ?_
          refine T_ren [(13, 13), (17, 1000), (1459, 1001)] rfl rfl rfl (by rw [hF]; rfl) ?_
          refine T_ret ?_
          obtain rfl := someI hm
          refine ⟨[_, _], [1000, 1001], ⟨⟨_, _, rfl, rfl, .inr ⟨ag77, _, _, sz77, rfl, rfl⟩⟩, rfl, trivial⟩, ?_, rfl, rfl, rfl, rfl⟩
          rfl
        · replace hm := condF hq hm
          refine TZ_pass 6 (by kernel_rfl) rfl rfl rfl rfl rfl rfl rfl rfl ?_
          refine TZ_one 7 (by kernel_rfl) rfl ?_
          refine TL_pass rfl rfl rfl rfl rfl rfl rfl ?_
          refine TL_nil ?_
          refine TZ_pure 8 (by kernel_rfl) rfl rfl rfl rfl rfl (op_pick_false rfl rfl) ?_
          refine TZ_one 9 (by kernel_rfl) rfl ?_
          refine TL_store_box sz77 rfl rfl rfl rfl rfl rfl rfl rfl rfl ?_
          refine TL_nil ?_
          refine TZ_pure 10 (by kernel_rfl) rfl rfl rfl rfl rfl (op_assign rfl) ?_
          refine TZ_done (by kernel_rfl) ?_
          refine T_keepH [6, 7] [13, 17, 1459] rfl rfl rfl rfl (by rw [hF]; rfl) ?_
          refine T_deepen 17 (p' := false) (List.map a_i64 u1) (by rw [hF]; rfl) rfl (ElR.map (f := a_i64) (g := a_i64) (fun _ => ⟨⟨rfl, rfl⟩, trivial⟩) u1) rfl rfl rfl ?_
          refine T_deepen 1459 (p' := false) (List.map a_i64 u2) (by rw [hF]; rfl) rfl (ElR.map (f := a_i64) (g := a_i64) (fun _ => ⟨⟨rfl, rfl⟩, trivial⟩) u2) rfl rfl rfl ?_
          refine T_ren [(13, 13), (17, 1000), (1459, 1001)] rfl rfl rfl (by rw [hF]; rfl) ?_
          refine T_ret ?_
          obtain rfl := someI hm
          refine ⟨[_, _], [1000, 1001], ⟨⟨_, _, rfl, rfl, .inr ⟨ag77, _, _, sz77, rfl, rfl⟩⟩, rfl, trivial⟩, ?_, rfl, rfl, rfl, rfl⟩
          rfl
      · unfold m_impl_cancelled_L2 at hm
        refine T_seq ?_
        refine T_region ?_
        refine TL_pure rfl rfl rfl rfl (op_lss rfl rfl) ?_
        refine TL_nil ?_
        refine T_seq ?_
        refine T_cond rfl (fun hq => ?_) (fun hq => ?_)
        · replace hm := condT hq hm
          refine T_skip ?_
          refine T_seq ?_
          refine T_block ?_
          refine T_seq ?_
          refine T_region ?_
          refine TL_pure rfl rfl rfl rfl (op_move rfl) ?_
          refine TL_pure rfl rfl rfl rfl (op_assign rfl) ?_
          refine TL_nil ?_
          refine T_region ?_
          refine TL_pure rfl rfl rfl rfl (op_move rfl) ?_
          refine TL_pure rfl rfl rfl rfl (op_move rfl) ?_
          obtain ⟨x105, hx105, hm⟩ := bindS hm
          refine TL_pure rfl rfl rfl rfl (op_indexO el26 rfl rfl rfl hx105) ?_
          refine TL_pure rfl rfl rfl rfl (op_loadT1 ag2 rfl rfl ((getI_spec hx105).2) rfl rfl) ?_
          refine TL_pure rfl rfl rfl rfl (op_move rfl) ?_
          obtain ⟨q108, hq108, hm⟩ := bindS hm
          refine TL_pure rfl rfl rfl rfl (op_quoT rfl rfl hq108) ?_
          refine TL_pure rfl rfl rfl rfl (op_indexO el26 rfl rfl rfl hx105) ?_
          refine TL_storeT sz2 rfl rfl ((getI_spec hx105).2) (v' := q108) rfl rfl rfl rfl rfl rfl rfl rfl rfl rfl ?_
          refine TL_nil ?_
          refine T_region ?_
          refine TL_pure rfl rfl rfl rfl (op_addW rfl rfl) ?_
          refine TL_pure rfl rfl rfl rfl (op_move rfl) ?_
          refine TL_nil ?_
          refine TR_keepH [6, 10, 11, 12, 99, 100] [13, 17, 18, 1459] rfl rfl rfl rfl (by rw [hF]; rfl) ?_
          obtain rfl := someI hm
          have hn := CtlOK_next hc2
          exact hn _ rfl
        · replace hm := condF hq hm
          refine T_keepH [6, 11, 12] [13, 17, 18, 1459] rfl rfl rfl rfl (by rw [hF]; rfl) ?_
          refine T_exit ?_
          obtain rfl := someI hm
          have hn := CtlOK_out hc2
          exact hx2 s2.1 hn
    · unfold m_impl_cancelled_L1 at hm
      refine T_seq ?_
      refine T_region ?_
      refine TL_pure rfl rfl rfl rfl (op_lss rfl rfl) ?_
      refine TL_nil ?_
      refine T_seq ?_
      refine T_cond rfl (fun hq => ?_) (fun hq => ?_)
      · replace hm := condT hq hm
        refine T_skip ?_
        refine T_seq ?_
        refine T_block ?_
        refine T_seq ?_
        refine T_region ?_
        refine TL_pure rfl rfl rfl rfl (op_move rfl) ?_
        refine TL_pure rfl rfl rfl rfl (op_assign rfl) ?_
        refine TL_nil ?_
        refine T_region ?_
        refine TL_pure rfl rfl rfl rfl (op_fieldAddr fa41_1 rfl rfl) ?_
        refine TL_pure rfl rfl rfl rfl (op_load_one ag26 rfl rfl) ?_
        refine TL_pure rfl rfl rfl rfl (op_move rfl) ?_
        obtain ⟨x92, hx92, hm⟩ := bindS hm
        refine TL_pure rfl rfl rfl rfl (op_indexO el26 rfl rfl rfl hx92) ?_
        refine TL_pure rfl rfl rfl rfl (op_loadT1 ag2 rfl rfl ((getI_spec hx92).2) rfl rfl) ?_
        refine TL_pure rfl rfl rfl rfl (op_move rfl) ?_
        obtain ⟨q95, hq95, hm⟩ := bindS hm
        refine TL_pure rfl rfl rfl rfl (op_quoT rfl rfl hq95) ?_
        refine TL_pure rfl rfl rfl rfl (op_indexO el26 rfl rfl rfl hx92) ?_
        refine TL_storeT sz2 rfl rfl ((getI_spec hx92).2) (v' := q95) rfl rfl rfl rfl rfl rfl rfl rfl rfl rfl ?_
        refine TL_nil ?_
        refine T_region ?_
        refine TL_pure rfl rfl rfl rfl (op_addW rfl rfl) ?_
        refine TL_pure rfl rfl rfl rfl (op_move rfl) ?_
        refine TL_nil ?_
        refine TR_keepH [6, 10, 11, 12, 85, 86] [13, 17, 18, 1459] rfl rfl rfl rfl (by rw [hF]; rfl) ?_
        obtain rfl := someI hm
        have hn := CtlOK_next hc1
        exact hn _ rfl
      · replace hm := condF hq hm
        refine T_keepH [6, 10, 11, 12] [13, 17, 18, 1459] rfl rfl rfl rfl (by rw [hF]; rfl) ?_
        refine T_exit ?_
        obtain rfl := someI hm
        have hn := CtlOK_out hc1
        exact hx1 s1.1 hn
  · refine T_seq ?_
    refine T_region ?_
    refine TL_pure rfl rfl rfl rfl (op_lss rfl rfl) ?_
    refine TL_nil ?_
    refine T_seq ?_
    refine T_if_false rfl (decide_eq_false (by simp)) ?_
    refine T_keepH [6, 11, 12] [13, 17, 18, 1459] rfl rfl rfl rfl (by rw [hF]; rfl) ?_
    refine T_exit ?_
    exact hx0 s0 hm
  · unfold m_impl_cancelled_L0 at hm
    refine T_seq ?_
    refine T_region ?_
    refine TL_pure rfl rfl rfl rfl (op_lss rfl rfl) ?_
    refine TL_nil ?_
    refine T_seq ?_
    refine T_if_true rfl (decide_eq_true (Int.ofNat_lt.2 hlt0)) ?_
    refine T_skip ?_
    refine T_seq ?_
    refine T_block ?_
    refine T_seq ?_
    refine T_region ?_
    refine TL_pure rfl rfl rfl rfl (op_move rfl) ?_
    refine TL_pure rfl rfl rfl rfl (op_assign rfl) ?_
    refine TL_nil ?_
    refine T_drawZ [16, 17] mix (by kernel_rfl) rfl ?_
    obtain ⟨x62, hx62, hm⟩ := bindS hm
    obtain ⟨q67, hq67, hm⟩ := bindS hm
    refine TZ_pure 0 (by kernel_rfl) rfl rfl rfl rfl rfl (op_move rfl) ?_
    refine TZ_pure 1 (by kernel_rfl) rfl rfl rfl rfl rfl (op_move rfl) ?_
    refine TZ_pure 2 (by kernel_rfl) rfl rfl rfl rfl rfl (op_fieldAddr fa77_1 rfl rfl) ?_
    refine TZ_pure 4 (by kernel_rfl) rfl rfl rfl rfl rfl (op_move rfl) ?_
    refine TZ_pure 8 (by kernel_rfl) rfl rfl rfl rfl rfl (op_move rfl) ?_
    refine TZ_pure 9 (by kernel_rfl) rfl rfl rfl rfl rfl (op_fieldAddr fa77_1 rfl rfl) ?_
    refine TZ_pure 11 (by kernel_rfl) rfl rfl rfl rfl rfl (op_move rfl) ?_
    refine TZ_cut 9 [true, true, true, true, true, true, true, false, true, true, false, true, false, false, false, false, false, false, false] ⟨[(3, .ptr 11 0 0), (4, .ptr 12 0 0), (6, .ptr 13 0 0), (8, .int .i64 q31), (9, .int .i64 q34), (11, .ptr 18 0 0), (12, .ow 1459), (13, .int .i64 (n0 : Int)), (46, .int .i64 (p0.by_.length : Int)), (47, .int .i64 (n0 : Int)), (48, .bool (decide ((n0 : Int) < (p0.by_.length : Int)))), (49, .int .i64 (n0 : Int)), (50, .ow 1459), (51, .int .i64 q34), (52, .ptr 11 0 2), (53, .sl 1 (List.map a_i64 p0.by_)), (54, .int .i64 (n0 : Int)), (55, .cp [.int .i64 x0]), (56, .int .i64 x0), (58, .int .i64 q31), (59, .ptr 12 0 2), (61, .int .i64 (n0 : Int))], [(11, .box [.int .i64 p0.term.Const, .sl 1 (List.map a_i64 p0.term.Coeffs), .sl 1 (List.map a_i64 p0.by_)]), (12, .box [.int .i64 p1.term.Const, .sl 1 (List.map a_i64 p1.term.Coeffs), .sl 1 (List.map a_i64 p1.by_)]), (13, .box [.int .i64 (0 : Int), .snil, .snil]), (17, .arr ⟨false, true⟩ 1 2 (List.map a_i64 r43.Coeffs)), (18, .box [.int .i64 r43.Const, .ow 17]), (1459, .arr ⟨false, false⟩ 1 2 (List.map a_i64 s0))]⟩ ?_ (fun hS3058_0 => ?_)
    · refine TZ_pure 7 (by kernel_rfl) rfl rfl rfl rfl rfl (op_mulW rfl rfl) ?_
      refine TZ_one 10 (by kernel_rfl) rfl ?_
      refine TL_pure rfl rfl rfl rfl (op_load_one ag26 rfl rfl) ?_
      refine TL_nil ?_
      refine TZ_pure 12 (by kernel_rfl) rfl rfl rfl rfl rfl (op_indexT el26 rfl rfl hx62 rfl) ?_
      refine TZ_one 13 (by kernel_rfl) rfl ?_
      refine TL_pure rfl rfl rfl rfl (op_load_one ag2 rfl rfl) ?_
      refine TL_nil ?_
      refine TZ_pure 14 (by kernel_rfl) rfl rfl rfl rfl rfl (op_mulW rfl rfl) ?_
      refine TZ_pure 15 (by kernel_rfl) rfl rfl rfl rfl rfl (op_addW rfl rfl) ?_
      refine TZ_one 16 (by kernel_rfl) rfl ?_
      refine TL_buildSlice 4419 (es := List.map a_i64 [(w64 ((w64 (q34 * x0)) + (w64 (q31 * x62))))]) el26 z2 rfl rfl rfl rfl rfl rfl rfl rfl rfl ?_
      refine TL_nil ?_
      refine TZ_one 17 (by kernel_rfl) rfl ?_
      refine TL_appendT (f := a_i64) (a := s0) (b := [(w64 ((w64 (q34 * x0)) + (w64 (q31 * x62))))]) el26 z2 rfl rfl rfl rfl rfl rfl rfl (capI_spec hq67) rfl rfl rfl rfl rfl ?_
      refine TL_nil ?_
      refine TZ_pure 18 (by kernel_rfl) rfl rfl rfl rfl rfl (op_assign rfl) ?_
      refine TZ_done (by kernel_rfl) ?_
      refine T_region ?_
      refine TL_pure rfl rfl rfl rfl (op_addN rfl rfl (Nat.lt_of_lt_of_le hlt0 hlen46)) ?_
      refine TL_pure rfl rfl rfl rfl (op_move rfl) ?_
      refine TL_nil ?_
      refine TR_keepH [3, 4, 6, 8, 9, 11, 12, 46, 47] [11, 12, 13, 17, 18, 1459] rfl rfl rfl rfl (by rw [hF]; rfl) ?_
      obtain rfl := someI hm
      have hn := CtlOK_next hc0
      exact hn _ rfl
    refine TZ_cut 7 [true, true, true, true, true, true, true, false, true, true, true, true, true, false, false, false, false, false, false] ⟨[(3, .ptr 11 0 0), (4, .ptr 12 0 0), (6, .ptr 13 0 0), (8, .int .i64 q31), (9, .int .i64 q34), (11, .ptr 18 0 0), (12, .ow 1459), (13, .int .i64 (n0 : Int)), (46, .int .i64 (p0.by_.length : Int)), (47, .int .i64 (n0 : Int)), (48, .bool (decide ((n0 : Int) < (p0.by_.length : Int)))), (49, .int .i64 (n0 : Int)), (50, .ow 1459), (51, .int .i64 q34), (52, .ptr 11 0 2), (53, .sl 1 (List.map a_i64 p0.by_)), (54, .int .i64 (n0 : Int)), (55, .cp [.int .i64 x0]), (56, .int .i64 x0), (58, .int .i64 q31), (59, .ptr 12 0 2), (60, .sl 1 (List.map a_i64 p1.by_)), (61, .int .i64 (n0 : Int)), (62, .cp [.int .i64 x62])], [(11, .box [.int .i64 p0.term.Const, .sl 1 (List.map a_i64 p0.term.Coeffs), .sl 1 (List.map a_i64 p0.by_)]), (12, .box [.int .i64 p1.term.Const, .sl 1 (List.map a_i64 p1.term.Coeffs), .sl 1 (List.map a_i64 p1.by_)]), (13, .box [.int .i64 (0 : Int), .snil, .snil]), (17, .arr ⟨false, true⟩ 1 2 (List.map a_i64 r43.Coeffs)), (18, .box [.int .i64 r43.Const, .ow 17]), (1459, .arr ⟨false, false⟩ 1 2 (List.map a_i64 s0))]⟩ ?_ (fun hS3058_1 => ?_)
    · refine TZ_pure 7 (by kernel_rfl) rfl rfl rfl rfl rfl (op_mulW rfl rfl) ?_
      refine TZ_one 13 (by kernel_rfl) rfl ?_
      refine TL_pure rfl rfl rfl rfl (op_load_one ag2 rfl rfl) ?_
      refine TL_nil ?_
      refine TZ_pure 14 (by kernel_rfl) rfl rfl rfl rfl rfl (op_mulW rfl rfl) ?_
      refine TZ_pure 15 (by kernel_rfl) rfl rfl rfl rfl rfl (op_addW rfl rfl) ?_
      refine TZ_one 16 (by kernel_rfl) rfl ?_
      refine TL_buildSlice 4419 (es := List.map a_i64 [(w64 ((w64 (q34 * x0)) + (w64 (q31 * x62))))]) el26 z2 rfl rfl rfl rfl rfl rfl rfl rfl rfl ?_
      refine TL_nil ?_
      refine TZ_one 17 (by kernel_rfl) rfl ?_
      refine TL_appendT (f := a_i64) (a := s0) (b := [(w64 ((w64 (q34 * x0)) + (w64 (q31 * x62))))]) el26 z2 rfl rfl rfl rfl rfl rfl rfl (capI_spec hq67) rfl rfl rfl rfl rfl ?_
      refine TL_nil ?_
      refine TZ_pure 18 (by kernel_rfl) rfl rfl rfl rfl rfl (op_assign rfl) ?_
      refine TZ_done (by kernel_rfl) ?_
      refine T_region ?_
      refine TL_pure rfl rfl rfl rfl (op_addN rfl rfl (Nat.lt_of_lt_of_le hlt0 hlen46)) ?_
      refine TL_pure rfl rfl rfl rfl (op_move rfl) ?_
      refine TL_nil ?_
      refine TR_keepH [3, 4, 6, 8, 9, 11, 12, 46, 47] [11, 12, 13, 17, 18, 1459] rfl rfl rfl rfl (by rw [hF]; rfl) ?_
      obtain rfl := someI hm
      have hn := CtlOK_next hc0
      exact hn _ rfl
    refine TZ_cut 7 [true, true, true, true, true, true, false, false, true, true, true, true, true, true, false, false, false, false, false] ⟨[(3, .ptr 11 0 0), (4, .ptr 12 0 0), (6, .ptr 13 0 0), (8, .int .i64 q31), (9, .int .i64 q34), (11, .ptr 18 0 0), (12, .ow 1459), (13, .int .i64 (n0 : Int)), (46, .int .i64 (p0.by_.length : Int)), (47, .int .i64 (n0 : Int)), (48, .bool (decide ((n0 : Int) < (p0.by_.length : Int)))), (49, .int .i64 (n0 : Int)), (50, .ow 1459), (51, .int .i64 q34), (52, .ptr 11 0 2), (53, .sl 1 (List.map a_i64 p0.by_)), (54, .int .i64 (n0 : Int)), (55, .cp [.int .i64 x0]), (58, .int .i64 q31), (59, .ptr 12 0 2), (60, .sl 1 (List.map a_i64 p1.by_)), (61, .int .i64 (n0 : Int)), (62, .cp [.int .i64 x62]), (63, .int .i64 x62)], [(11, .box [.int .i64 p0.term.Const, .sl 1 (List.map a_i64 p0.term.Coeffs), .sl 1 (List.map a_i64 p0.by_)]), (12, .box [.int .i64 p1.term.Const, .sl 1 (List.map a_i64 p1.term.Coeffs), .sl 1 (List.map a_i64 p1.by_)]), (13, .box [.int .i64 (0 : Int), .snil, .snil]), (17, .arr ⟨false, true⟩ 1 2 (List.map a_i64 r43.Coeffs)), (18, .box [.int .i64 r43.Const, .ow 17]), (1459, .arr ⟨false, false⟩ 1 2 (List.map a_i64 s0))]⟩ ?_ (fun hS3058_2 => ?_)
    · refine TZ_pure 14 (by kernel_rfl) rfl rfl rfl rfl rfl (op_mulW rfl rfl) ?_
      refine TZ_one 6 (by kernel_rfl) rfl ?_
      refine TL_pure rfl rfl rfl rfl (op_load_one ag2 rfl rfl) ?_
      refine TL_nil ?_
      refine TZ_pure 7 (by kernel_rfl) rfl rfl rfl rfl rfl (op_mulW rfl rfl) ?_
      refine TZ_pure 15 (by kernel_rfl) rfl rfl rfl rfl rfl (op_addW rfl rfl) ?_
      refine TZ_one 16 (by kernel_rfl) rfl ?_
      refine TL_buildSlice 4419 (es := List.map a_i64 [(w64 ((w64 (q34 * x0)) + (w64 (q31 * x62))))]) el26 z2 rfl rfl rfl rfl rfl rfl rfl rfl rfl ?_
      refine TL_nil ?_
      refine TZ_one 17 (by kernel_rfl) rfl ?_
      refine TL_appendT (f := a_i64) (a := s0) (b := [(w64 ((w64 (q34 * x0)) + (w64 (q31 * x62))))]) el26 z2 rfl rfl rfl rfl rfl rfl rfl (capI_spec hq67) rfl rfl rfl rfl rfl ?_
      refine TL_nil ?_
      refine TZ_pure 18 (by kernel_rfl) rfl rfl rfl rfl rfl (op_assign rfl) ?_
      refine TZ_done (by kernel_rfl) ?_
      refine T_region ?_
      refine TL_pure rfl rfl rfl rfl (op_addN rfl rfl (Nat.lt_of_lt_of_le hlt0 hlen46)) ?_
      refine TL_pure rfl rfl rfl rfl (op_move rfl) ?_
      refine TL_nil ?_
      refine TR_keepH [3, 4, 6, 8, 9, 11, 12, 46, 47] [11, 12, 13, 17, 18, 1459] rfl rfl rfl rfl (by rw [hF]; rfl) ?_
      obtain rfl := someI hm
      have hn := CtlOK_next hc0
      exact hn _ rfl
    refine TZ_cut 9 [true, true, true, true, true, true, false, false, true, true, true, true, false, false, false, false, false, false, false] ⟨[(3, .ptr 11 0 0), (4, .ptr 12 0 0), (6, .ptr 13 0 0), (8, .int .i64 q31), (9, .int .i64 q34), (11, .ptr 18 0 0), (12, .ow 1459), (13, .int .i64 (n0 : Int)), (46, .int .i64 (p0.by_.length : Int)), (47, .int .i64 (n0 : Int)), (48, .bool (decide ((n0 : Int) < (p0.by_.length : Int)))), (49, .int .i64 (n0 : Int)), (50, .ow 1459), (51, .int .i64 q34), (52, .ptr 11 0 2), (53, .sl 1 (List.map a_i64 p0.by_)), (54, .int .i64 (n0 : Int)), (55, .cp [.int .i64 x0]), (58, .int .i64 q31), (59, .ptr 12 0 2), (60, .sl 1 (List.map a_i64 p1.by_)), (61, .int .i64 (n0 : Int))], [(11, .box [.int .i64 p0.term.Const, .sl 1 (List.map a_i64 p0.term.Coeffs), .sl 1 (List.map a_i64 p0.by_)]), (12, .box [.int .i64 p1.term.Const, .sl 1 (List.map a_i64 p1.term.Coeffs), .sl 1 (List.map a_i64 p1.by_)]), (13, .box [.int .i64 (0 : Int), .snil, .snil]), (17, .arr ⟨false, true⟩ 1 2 (List.map a_i64 r43.Coeffs)), (18, .box [.int .i64 r43.Const, .ow 17]), (1459, .arr ⟨false, false⟩ 1 2 (List.map a_i64 s0))]⟩ ?_ (fun hS3058_3 => ?_)
    · refine TZ_pure 12 (by kernel_rfl) rfl rfl rfl rfl rfl (op_indexT el26 rfl rfl hx62 rfl) ?_
      refine TZ_each [6, 13] (by kernel_rfl) rfl ?_
      refine ⟨?_, ?_⟩
      · refine ⟨_, rfl, ?_⟩
        refine TL_pure rfl rfl rfl rfl (op_load_one ag2 rfl rfl) ?_
        refine TL_nil ?_
        refine TZ_keepH [3, 4, 6, 8, 9, 11, 12, 13, 46, 47, 48, 49, 50, 51, 52, 53, 54, 55, 56, 58, 59, 60, 61, 62] [11, 12, 13, 17, 18, 1459] rfl rfl rfl rfl (by rw [hF]; rfl) ?_
        exact hS3058_1
      · refine ⟨_, rfl, ?_⟩
        refine TL_pure rfl rfl rfl rfl (op_load_one ag2 rfl rfl) ?_
        refine TL_nil ?_
        refine TZ_keepH [3, 4, 6, 8, 9, 11, 12, 13, 46, 47, 48, 49, 50, 51, 52, 53, 54, 55, 58, 59, 60, 61, 62, 63] [11, 12, 13, 17, 18, 1459] rfl rfl rfl rfl (by rw [hF]; rfl) ?_
        exact hS3058_2
    refine TZ_cut 11 [true, true, true, true, true, false, false, false, true, true, false, true, false, false, false, false, false, false, false] ⟨[(3, .ptr 11 0 0), (4, .ptr 12 0 0), (6, .ptr 13 0 0), (8, .int .i64 q31), (9, .int .i64 q34), (11, .ptr 18 0 0), (12, .ow 1459), (13, .int .i64 (n0 : Int)), (46, .int .i64 (p0.by_.length : Int)), (47, .int .i64 (n0 : Int)), (48, .bool (decide ((n0 : Int) < (p0.by_.length : Int)))), (49, .int .i64 (n0 : Int)), (50, .ow 1459), (51, .int .i64 q34), (52, .ptr 11 0 2), (53, .sl 1 (List.map a_i64 p0.by_)), (54, .int .i64 (n0 : Int)), (58, .int .i64 q31), (59, .ptr 12 0 2), (61, .int .i64 (n0 : Int))], [(11, .box [.int .i64 p0.term.Const, .sl 1 (List.map a_i64 p0.term.Coeffs), .sl 1 (List.map a_i64 p0.by_)]), (12, .box [.int .i64 p1.term.Const, .sl 1 (List.map a_i64 p1.term.Coeffs), .sl 1 (List.map a_i64 p1.by_)]), (13, .box [.int .i64 (0 : Int), .snil, .snil]), (17, .arr ⟨false, true⟩ 1 2 (List.map a_i64 r43.Coeffs)), (18, .box [.int .i64 r43.Const, .ow 17]), (1459, .arr ⟨false, false⟩ 1 2 (List.map a_i64 s0))]⟩ ?_ (fun hS3058_4 => ?_)
    · refine TZ_pure 5 (by kernel_rfl) rfl rfl rfl rfl rfl (op_index_sl el26 rfl rfl rfl (get_map hxn0) rfl) ?_
      refine TZ_each [6, 10] (by kernel_rfl) rfl ?_
      refine ⟨?_, ?_⟩
      · refine ⟨_, rfl, ?_⟩
        refine TL_pure rfl rfl rfl rfl (op_load_one ag2 rfl rfl) ?_
        refine TL_nil ?_
        refine TZ_keepH [3, 4, 6, 8, 9, 11, 12, 13, 46, 47, 48, 49, 50, 51, 52, 53, 54, 55, 56, 58, 59, 61] [11, 12, 13, 17, 18, 1459] rfl rfl rfl rfl (by rw [hF]; rfl) ?_
        exact hS3058_0
      · refine ⟨_, rfl, ?_⟩
        refine TL_pure rfl rfl rfl rfl (op_load_one ag26 rfl rfl) ?_
        refine TL_nil ?_
        refine TZ_keepH [3, 4, 6, 8, 9, 11, 12, 13, 46, 47, 48, 49, 50, 51, 52, 53, 54, 55, 58, 59, 60, 61] [11, 12, 13, 17, 18, 1459] rfl rfl rfl rfl (by rw [hF]; rfl) ?_
        exact hS3058_3
    refine TZ_cut 9 [true, true, true, true, true, false, false, false, true, true, true, true, true, false, false, false, false, false, false] ⟨[(3, .ptr 11 0 0), (4, .ptr 12 0 0), (6, .ptr 13 0 0), (8, .int .i64 q31), (9, .int .i64 q34), (11, .ptr 18 0 0), (12, .ow 1459), (13, .int .i64 (n0 : Int)), (46, .int .i64 (p0.by_.length : Int)), (47, .int .i64 (n0 : Int)), (48, .bool (decide ((n0 : Int) < (p0.by_.length : Int)))), (49, .int .i64 (n0 : Int)), (50, .ow 1459), (51, .int .i64 q34), (52, .ptr 11 0 2), (53, .sl 1 (List.map a_i64 p0.by_)), (54, .int .i64 (n0 : Int)), (58, .int .i64 q31), (59, .ptr 12 0 2), (60, .sl 1 (List.map a_i64 p1.by_)), (61, .int .i64 (n0 : Int)), (62, .cp [.int .i64 x62])], [(11, .box [.int .i64 p0.term.Const, .sl 1 (List.map a_i64 p0.term.Coeffs), .sl 1 (List.map a_i64 p0.by_)]), (12, .box [.int .i64 p1.term.Const, .sl 1 (List.map a_i64 p1.term.Coeffs), .sl 1 (List.map a_i64 p1.by_)]), (13, .box [.int .i64 (0 : Int), .snil, .snil]), (17, .arr ⟨false, true⟩ 1 2 (List.map a_i64 r43.Coeffs)), (18, .box [.int .i64 r43.Const, .ow 17]), (1459, .arr ⟨false, false⟩ 1 2 (List.map a_i64 s0))]⟩ ?_ (fun hS3058_5 => ?_)
    · refine TZ_pure 5 (by kernel_rfl) rfl rfl rfl rfl rfl (op_index_sl el26 rfl rfl rfl (get_map hxn0) rfl) ?_
      refine TZ_each [6, 13] (by kernel_rfl) rfl ?_
      refine ⟨?_, ?_⟩
      · refine ⟨_, rfl, ?_⟩
        refine TL_pure rfl rfl rfl rfl (op_load_one ag2 rfl rfl) ?_
        refine TL_nil ?_
        refine TZ_keepH [3, 4, 6, 8, 9, 11, 12, 13, 46, 47, 48, 49, 50, 51, 52, 53, 54, 55, 56, 58, 59, 60, 61, 62] [11, 12, 13, 17, 18, 1459] rfl rfl rfl rfl (by rw [hF]; rfl) ?_
        exact hS3058_1
      · refine ⟨_, rfl, ?_⟩
        refine TL_pure rfl rfl rfl rfl (op_load_one ag2 rfl rfl) ?_
        refine TL_nil ?_
        refine TZ_keepH [3, 4, 6, 8, 9, 11, 12, 13, 46, 47, 48, 49, 50, 51, 52, 53, 54, 55, 58, 59, 60, 61, 62, 63] [11, 12, 13, 17, 18, 1459] rfl rfl rfl rfl (by rw [hF]; rfl) ?_
        exact hS3058_2
    refine TZ_cut 9 [true, true, true, false, true, false, false, false, true, true, true, true, true, true, false, false, false, false, false] ⟨[(3, .ptr 11 0 0), (4, .ptr 12 0 0), (6, .ptr 13 0 0), (8, .int .i64 q31), (9, .int .i64 q34), (11, .ptr 18 0 0), (12, .ow 1459), (13, .int .i64 (n0 : Int)), (46, .int .i64 (p0.by_.length : Int)), (47, .int .i64 (n0 : Int)), (48, .bool (decide ((n0 : Int) < (p0.by_.length : Int)))), (49, .int .i64 (n0 : Int)), (50, .ow 1459), (51, .int .i64 q34), (52, .ptr 11 0 2), (54, .int .i64 (n0 : Int)), (58, .int .i64 q31), (59, .ptr 12 0 2), (60, .sl 1 (List.map a_i64 p1.by_)), (61, .int .i64 (n0 : Int)), (62, .cp [.int .i64 x62]), (63, .int .i64 x62)], [(11, .box [.int .i64 p0.term.Const, .sl 1 (List.map a_i64 p0.term.Coeffs), .sl 1 (List.map a_i64 p0.by_)]), (12, .box [.int .i64 p1.term.Const, .sl 1 (List.map a_i64 p1.term.Coeffs), .sl 1 (List.map a_i64 p1.by_)]), (13, .box [.int .i64 (0 : Int), .snil, .snil]), (17, .arr ⟨false, true⟩ 1 2 (List.map a_i64 r43.Coeffs)), (18, .box [.int .i64 r43.Const, .ow 17]), (1459, .arr ⟨false, false⟩ 1 2 (List.map a_i64 s0))]⟩ ?_ (fun hS3058_6 => ?_)
    · refine TZ_pure 14 (by kernel_rfl) rfl rfl rfl rfl rfl (op_mulW rfl rfl) ?_
      refine TZ_one 3 (by kernel_rfl) rfl ?_
      refine TL_pure rfl rfl rfl rfl (op_load_one ag26 rfl rfl) ?_
      refine TL_nil ?_
      refine TZ_pure 5 (by kernel_rfl) rfl rfl rfl rfl rfl (op_index_sl el26 rfl rfl rfl (get_map hxn0) rfl) ?_
      refine TZ_one 6 (by kernel_rfl) rfl ?_
      refine TL_pure rfl rfl rfl rfl (op_load_one ag2 rfl rfl) ?_
      refine TL_nil ?_
      refine TZ_pure 7 (by kernel_rfl) rfl rfl rfl rfl rfl (op_mulW rfl rfl) ?_
      refine TZ_pure 15 (by kernel_rfl) rfl rfl rfl rfl rfl (op_addW rfl rfl) ?_
      refine TZ_one 16 (by kernel_rfl) rfl ?_
      refine TL_buildSlice 4419 (es := List.map a_i64 [(w64 ((w64 (q34 * x0)) + (w64 (q31 * x62))))]) el26 z2 rfl rfl rfl rfl rfl rfl rfl rfl rfl ?_
      refine TL_nil ?_
      refine TZ_one 17 (by kernel_rfl) rfl ?_
      refine TL_appendT (f := a_i64) (a := s0) (b := [(w64 ((w64 (q34 * x0)) + (w64 (q31 * x62))))]) el26 z2 rfl rfl rfl rfl rfl rfl rfl (capI_spec hq67) rfl rfl rfl rfl rfl ?_
      refine TL_nil ?_
      refine TZ_pure 18 (by kernel_rfl) rfl rfl rfl rfl rfl (op_assign rfl) ?_
      refine TZ_done (by kernel_rfl) ?_
      refine T_region ?_
      refine TL_pure rfl rfl rfl rfl (op_addN rfl rfl (Nat.lt_of_lt_of_le hlt0 hlen46)) ?_
      refine TL_pure rfl rfl rfl rfl (op_move rfl) ?_
      refine TL_nil ?_
      refine TR_keepH [3, 4, 6, 8, 9, 11, 12, 46, 47] [11, 12, 13, 17, 18, 1459] rfl rfl rfl rfl (by rw [hF]; rfl) ?_
      obtain rfl := someI hm
      have hn := CtlOK_next hc0
      exact hn _ rfl
    refine TZ_cut 11 [true, true, true, false, true, false, false, false, true, true, true, true, false, false, false, false, false, false, false] ⟨[(3, .ptr 11 0 0), (4, .ptr 12 0 0), (6, .ptr 13 0 0), (8, .int .i64 q31), (9, .int .i64 q34), (11, .ptr 18 0 0), (12, .ow 1459), (13, .int .i64 (n0 : Int)), (46, .int .i64 (p0.by_.length : Int)), (47, .int .i64 (n0 : Int)), (48, .bool (decide ((n0 : Int) < (p0.by_.length : Int)))), (49, .int .i64 (n0 : Int)), (50, .ow 1459), (51, .int .i64 q34), (52, .ptr 11 0 2), (54, .int .i64 (n0 : Int)), (58, .int .i64 q31), (59, .ptr 12 0 2), (60, .sl 1 (List.map a_i64 p1.by_)), (61, .int .i64 (n0 : Int))], [(11, .box [.int .i64 p0.term.Const, .sl 1 (List.map a_i64 p0.term.Coeffs), .sl 1 (List.map a_i64 p0.by_)]), (12, .box [.int .i64 p1.term.Const, .sl 1 (List.map a_i64 p1.term.Coeffs), .sl 1 (List.map a_i64 p1.by_)]), (13, .box [.int .i64 (0 : Int), .snil, .snil]), (17, .arr ⟨false, true⟩ 1 2 (List.map a_i64 r43.Coeffs)), (18, .box [.int .i64 r43.Const, .ow 17]), (1459, .arr ⟨false, false⟩ 1 2 (List.map a_i64 s0))]⟩ ?_ (fun hS3058_7 => ?_)
    · refine TZ_pure 12 (by kernel_rfl) rfl rfl rfl rfl rfl (op_indexT el26 rfl rfl hx62 rfl) ?_
      refine TZ_each [3, 13] (by kernel_rfl) rfl ?_
      refine ⟨?_, ?_⟩
      · refine ⟨_, rfl, ?_⟩
        refine TL_pure rfl rfl rfl rfl (op_load_one ag26 rfl rfl) ?_
        refine TL_nil ?_
        refine TZ_keepH [3, 4, 6, 8, 9, 11, 12, 13, 46, 47, 48, 49, 50, 51, 52, 53, 54, 58, 59, 60, 61, 62] [11, 12, 13, 17, 18, 1459] rfl rfl rfl rfl (by rw [hF]; rfl) ?_
        exact hS3058_5
      · refine ⟨_, rfl, ?_⟩
        refine TL_pure rfl rfl rfl rfl (op_load_one ag2 rfl rfl) ?_
        refine TL_nil ?_
        refine TZ_keepH [3, 4, 6, 8, 9, 11, 12, 13, 46, 47, 48, 49, 50, 51, 52, 54, 58, 59, 60, 61, 62, 63] [11, 12, 13, 17, 18, 1459] rfl rfl rfl rfl (by rw [hF]; rfl) ?_
        exact hS3058_6
    refine TZ_each [3, 10] (by kernel_rfl) rfl ?_
    refine ⟨?_, ?_⟩
    · refine ⟨_, rfl, ?_⟩
      refine TL_pure rfl rfl rfl rfl (op_load_one ag26 rfl rfl) ?_
      refine TL_nil ?_
      refine TZ_keepH [3, 4, 6, 8, 9, 11, 12, 13, 46, 47, 48, 49, 50, 51, 52, 53, 54, 58, 59, 61] [11, 12, 13, 17, 18, 1459] rfl rfl rfl rfl (by rw [hF]; rfl) ?_
      exact hS3058_4
    · refine ⟨_, rfl, ?_⟩
      refine TL_pure rfl rfl rfl rfl (op_load_one ag26 rfl rfl) ?_
      refine TL_nil ?_
      refine TZ_keepH [3, 4, 6, 8, 9, 11, 12, 13, 46, 47, 48, 49, 50, 51, 52, 54, 58, 59, 60, 61] [11, 12, 13, 17, 18, 1459] rfl rfl rfl rfl (by rw [hF]; rfl) ?_
      exact hS3058_7
theorem c_impl_eliminated (p0 : List Term) (p1 : List Int) (out : (List combination) × (List combination) × Bool) (hm : m_impl_eliminated p0 p1 = some out) : ACall Try.prog 49 [.sl 2 (List.map a_Term p0), .sl 1 (List.map a_i64 p1)] [] (.tup [.sl 3 (List.map a_combination out.1), .sl 3 (List.map a_combination out.2.1), .bool out.2.2]) [] := by
  refine ACall.intro Try.func49 rfl Try.ntmps49 rfl (fun F hF => ?_)
  unfold m_impl_eliminated at hm
  refine T_seq ?_
  refine T_region ?_
  refine TL_pure rfl rfl rfl rfl (op_assign rfl) ?_
  refine TL_pure rfl rfl rfl rfl (op_assign rfl) ?_
  refine TL_pure rfl rfl rfl rfl (op_assign rfl) ?_
  refine TL_nil ?_
  refine T_seq ?_
  refine T_region ?_
  refine TL_pure rfl rfl rfl rfl (op_assign rfl) ?_
  refine TL_pure rfl rfl rfl rfl (op_assign rfl) ?_
  refine TL_nil ?_
  refine T_seq ?_
  refine T_seq ?_
  refine T_region ?_
  refine TL_pure rfl rfl rfl rfl (op_move rfl) ?_
  refine TL_pure rfl rfl rfl rfl (op_lenT Try.underlying24 rfl (List.length_map _)) ?_
  refine TL_fact (fun _ _ _ hr => RelP.slLen (i := 23) rfl hr) (fun hlen24 => ?_)
  rw [List.length_map] at hlen24
  refine TL_pure rfl rfl rfl rfl (op_move rfl) ?_
  refine TL_nil ?_
  refine T_block ?_
  refine T_ownNil 7 220 ⟨false, false⟩ 77 rfl rfl (sz := 3) rfl rfl rfl ?_
  refine T_keepH [0, 1, 7, 8, 23, 24, 25] [220] rfl rfl rfl rfl (by rw [hF]; rfl) ?_
  refine T_ren [(220, 14)] rfl rfl rfl (by rw [hF]; rfl) ?_
  refine T_loop ?_
  obtain ⟨u0, hl0, hm⟩ := bindS hm
  refine TR_forL2 p0 (m_impl_eliminated_L0 p0) (fun (s0 : List combination) => s0) (fun n0 (s0 : List combination) => ⟨[(0, .sl 2 (List.map a_Term p0)), (1, .sl 1 (List.map a_i64 p1)), (7, .ow 14), (8, .snil), (23, .sl 2 (List.map a_Term p0)), (24, .int .i64 (p0.length : Int)), (25, .int .i64 (n0 : Int))], [(14, .arr ⟨false, false⟩ 3 77 (List.map a_combination s0))]⟩) (fun u0 => .exit 0) (fun u0 => ⟨[(1, .sl 1 (List.map a_i64 p1)), (7, .ow 14), (8, .snil)], [(14, .arr ⟨false, false⟩ 3 77 (List.map a_combination u0))]⟩) (fun u0 => m_impl_eliminated_A0 p1 u0 = some out) hl0 hm (fun u0 hm => ?_) (fun hx0 s0 hm => ?_) (fun hx0 n0 x0 s0 c0 hxn0 hlt0 hm hc0 => ?_)
  · unfold m_impl_eliminated_A0 at hm
    refine T_seq ?_
    refine T_seq ?_
    refine T_region ?_
    refine TL_pure rfl rfl rfl rfl (op_move rfl) ?_
    refine TL_pure rfl rfl rfl rfl (op_lenT Try.underlying74 rfl (List.length_map _)) ?_
    refine TL_fact (fun _ _ _ hr => RelP.slLen (i := 43) rfl hr) (fun hlen44 => ?_)
    rw [List.length_map] at hlen44
    refine TL_pure rfl rfl rfl rfl (op_move rfl) ?_
    refine TL_nil ?_
    refine T_block ?_
    refine T_ownNil 8 219 ⟨false, false⟩ 77 rfl rfl (sz := 3) rfl rfl rfl ?_
    refine T_keepH [7, 8, 43, 44, 45] [14, 219] rfl rfl rfl rfl (by rw [hF]; rfl) ?_
    refine T_ren [(14, 14), (219, 35)] rfl rfl rfl (by rw [hF]; rfl) ?_
    refine T_loop ?_
    obtain ⟨u1, hl1, hm⟩ := bindS hm
    refine TR_forL2 p1 (m_impl_eliminated_L1) (fun (s1 : (List combination) × (List combination)) => (.inl (s1.1, s1.2))) (fun n1 (s1 : (List combination) × (List combination)) => ⟨[(7, .ow 14), (8, .ow 35), (43, .sl 1 (List.map a_i64 p1)), (44, .int .i64 (p1.length : Int)), (45, .int .i64 (n1 : Int))], [(14, .arr ⟨false, false⟩ 3 77 (List.map a_combination s1.1)), (35, .arr ⟨false, false⟩ 3 77 (List.map a_combination s1.2))]⟩) (fun u1 => match u1 with | .inl u1 => .exit 2 | .inr u1 => .ret) (fun u1 => match u1 with | .inl u1 => ⟨[(7, .ow 14), (8, .ow 35)], [(14, .arr ⟨false, false⟩ 3 77 (List.map a_combination u1.1)), (35, .arr ⟨false, false⟩ 3 77 (List.map a_combination u1.2))]⟩ | .inr u1 => ⟨[(4, .sl 3 (List.map a_combination u1.1)), (5, .sl 3 (List.map a_combination u1.2.1)), (6, .bool u1.2.2)], []⟩) (fun u1 => m_impl_eliminated_A1 u1 = some out) hl1 hm (fun u1 hm => ?_) (fun hx1 s1 hm => ?_) (fun hx1 n1 x1 s1 c1 hxn1 hlt1 hm hc1 => ?_)
    · rcases u1 with u1 | u1
      · unfold m_impl_eliminated_A1 at hm
        refine T_seq ?_
        refine T_region ?_
        refine TL_pure rfl rfl rfl rfl (op_move rfl) ?_
        refine TL_pure rfl rfl rfl rfl (op_move rfl) ?_
        refine TL_pure rfl rfl rfl rfl (op_assign rfl) ?_
        refine TL_pure rfl rfl rfl rfl (op_assign rfl) ?_
        refine TL_pure rfl rfl rfl rfl (op_assign rfl) ?_
        refine TL_nil ?_
        refine T_keepH [4, 5, 6] [14, 35] rfl rfl rfl rfl (by rw [hF]; rfl) ?_
        refine T_freeze 14 (by rw [hF]; rfl) rfl rfl rfl ?_
        refine T_freeze 35 (by rw [hF]; rfl) rfl rfl rfl ?_
        refine T_ret ?_
        obtain rfl := someI hm
        refine ⟨[_, _, _], [], ⟨rfl, rfl, rfl, trivial⟩, ?_, rfl, rfl, rfl, rfl⟩
        rfl
      · unfold m_impl_eliminated_A1 at hm
        obtain rfl := someI hm
        refine ⟨[_, _, _], [], ⟨rfl, rfl, rfl, trivial⟩, ?_, rfl, rfl, rfl, rfl⟩
        rfl
    · refine T_seq ?_
      refine T_region ?_
      refine TL_pure rfl rfl rfl rfl (op_lss rfl rfl) ?_
      refine TL_nil ?_
      refine T_seq ?_
      refine T_if_false rfl (decide_eq_false (by simp)) ?_
      refine T_keepH [7, 8] [14, 35] rfl rfl rfl rfl (by rw [hF]; rfl) ?_
      refine T_exit ?_
      exact hx1 (.inl (s1.1, s1.2)) hm
    · unfold m_impl_eliminated_L1 at hm
      refine T_seq ?_
      refine T_region ?_
      refine TL_pure rfl rfl rfl rfl (op_lss rfl rfl) ?_
      refine TL_nil ?_
      refine T_seq ?_
      refine T_if_true rfl (decide_eq_true (Int.ofNat_lt.2 hlt1)) ?_
      refine T_skip ?_
      refine T_seq ?_
      refine T_block ?_
      refine T_seq ?_
      refine T_region ?_
      refine TL_pure rfl rfl rfl rfl (op_index_sl el74 rfl rfl rfl (get_map hxn1) rfl) ?_
      refine TL_pure rfl rfl rfl rfl (op_load_one ag3 rfl rfl) ?_
      refine TL_pure rfl rfl rfl rfl (op_assign rfl) ?_
      refine TL_nil ?_
      refine T_seq ?_
      refine T_region ?_
      refine TL_pure rfl rfl rfl rfl (op_assign rfl) ?_
      refine TL_nil ?_
      refine T_seq ?_
      refine T_seq ?_
      refine T_region ?_
      refine TL_pure rfl rfl rfl rfl (op_move rfl) ?_
      refine TL_pure rfl rfl rfl rfl (op_lenO Try.underlying71 rfl rfl (List.length_map _)) ?_
      refine TL_fact (fun _ _ _ hr => RelP.owLen (id := 14) rfl hr) (fun hlen50 => ?_)
      rw [List.length_map] at hlen50
      refine TL_pure rfl rfl rfl rfl (op_move rfl) ?_
      refine TL_nil ?_
      refine T_block ?_
      refine T_ownNil 14 218 ⟨false, false⟩ 77 rfl rfl (sz := 3) rfl rfl rfl ?_
      refine T_keepH [7, 8, 13, 14, 43, 44, 45, 49, 50, 51] [14, 35, 218] rfl rfl rfl rfl (by rw [hF]; rfl) ?_
      refine T_ren [(14, 14), (35, 35), (218, 156)] rfl rfl rfl (by rw [hF]; rfl) ?_
      refine T_loop ?_
      obtain ⟨u2, hl2, hm⟩ := bindS hm
      refine TR_forL2 s1.1 (m_impl_eliminated_L2 x1) (fun (s2 : List combination) => s2) (fun n2 (s2 : List combination) => ⟨[(7, .ow 14), (8, .ow 35), (13, .int .i64 x1), (14, .ow 156), (43, .sl 1 (List.map a_i64 p1)), (44, .int .i64 (p1.length : Int)), (45, .int .i64 (n1 : Int)), (49, .ow 14), (50, .int .i64 (s1.1.length : Int)), (51, .int .i64 (n2 : Int))], [(14, .arr ⟨false, false⟩ 3 77 (List.map a_combination s1.1)), (35, .arr ⟨false, false⟩ 3 77 (List.map a_combination s1.2)), (156, .arr ⟨false, false⟩ 3 77 (List.map a_combination s2))]⟩) (fun u2 => .exit 4) (fun u2 => ⟨[(7, .ow 14), (8, .ow 35), (13, .int .i64 x1), (14, .ow 156), (43, .sl 1 (List.map a_i64 p1)), (44, .int .i64 (p1.length : Int)), (45, .int .i64 (n1 : Int))], [(14, .arr ⟨false, false⟩ 3 77 (List.map a_combination s1.1)), (35, .arr ⟨false, false⟩ 3 77 (List.map a_combination s1.2)), (156, .arr ⟨false, false⟩ 3 77 (List.map a_combination u2))]⟩) (fun u2 => m_impl_eliminated_A2 s1 x1 u2 = some c1) hl2 hm (fun u2 hm => ?_) (fun hx2 s2 hm => ?_) (fun hx2 n2 x2 s2 c2 hxn2 hlt2 hm hc2 => ?_)
      · unfold m_impl_eliminated_A2 at hm
        refine T_seq ?_
        refine T_seq ?_
        refine T_region ?_
        refine TL_pure rfl rfl rfl rfl (op_move rfl) ?_
        refine TL_pure rfl rfl rfl rfl (op_lenO Try.underlying71 rfl rfl (List.length_map _)) ?_
        refine TL_pure rfl rfl rfl rfl (op_move rfl) ?_
        refine TL_nil ?_
        refine T_block ?_
        refine T_keepH [7, 8, 13, 14, 43, 44, 45, 65, 66, 67] [14, 35, 156] rfl rfl rfl rfl (by rw [hF]; rfl) ?_
        refine T_loop ?_
        obtain ⟨u3, hl3, hm⟩ := bindS hm
        refine TR_forL2 s1.1 (m_impl_eliminated_L3 s1 x1) (fun (s3 : (List combination) × (List combination)) => (.inl (s3.1, s3.2))) (fun n3 (s3 : (List combination) × (List combination)) => ⟨[(7, .ow 14), (8, .ow 35), (13, .int .i64 x1), (14, .ow 156), (43, .sl 1 (List.map a_i64 p1)), (44, .int .i64 (p1.length : Int)), (45, .int .i64 (n1 : Int)), (65, .ow 14), (66, .int .i64 (s1.1.length : Int)), (67, .int .i64 (n3 : Int))], [(14, .arr ⟨false, false⟩ 3 77 (List.map a_combination s1.1)), (35, .arr ⟨false, false⟩ 3 77 (List.map a_combination s3.1)), (156, .arr ⟨false, false⟩ 3 77 (List.map a_combination s3.2))]⟩) (fun u3 => match u3 with | .inl u3 => .exit 6 | .inr u3 => .ret) (fun u3 => match u3 with | .inl u3 => ⟨[(8, .ow 35), (14, .ow 156), (43, .sl 1 (List.map a_i64 p1)), (44, .int .i64 (p1.length : Int)), (45, .int .i64 (n1 : Int))], [(35, .arr ⟨false, false⟩ 3 77 (List.map a_combination u3.1)), (156, .arr ⟨false, false⟩ 3 77 (List.map a_combination u3.2))]⟩ | .inr u3 => ⟨[(4, .sl 3 (List.map a_combination u3.1)), (5, .sl 3 (List.map a_combination u3.2.1)), (6, .bool u3.2.2)], []⟩) (fun u3 => m_impl_eliminated_A3 u3 = some c1) hl3 hm (fun u3 hm => ?_) (fun hx3 s3 hm => ?_) (fun hx3 n3 x3 s3 c3 hxn3 hlt3 hm hc3 => ?_)
        · rcases u3 with u3 | u3
          · unfold m_impl_eliminated_A3 at hm
            refine T_seq ?_
            refine T_seq ?_
            refine T_region ?_
            refine TL_pure rfl rfl rfl rfl (op_move rfl) ?_
            refine TL_pure rfl rfl rfl rfl (op_lenO Try.underlying71 rfl rfl (List.length_map _)) ?_
            refine TL_fact (fun _ _ _ hr => RelP.owLen (id := 156) rfl hr) (fun hlen114 => ?_)
            rw [List.length_map] at hlen114
            refine TL_pure rfl rfl rfl rfl (op_gtr rfl rfl) ?_
            refine TL_nil ?_
            refine T_cond rfl (fun hq => ?_) (fun hq => ?_)
            · replace hm := condT hq hm
              refine T_seq ?_
              refine T_region ?_
              refine TL_pure rfl rfl rfl rfl (op_assign rfl) ?_
              refine TL_pure rfl rfl rfl rfl (op_assign rfl) ?_
              refine TL_pure rfl rfl rfl rfl (op_assign rfl) ?_
              refine TL_nil ?_
              refine T_keepH [4, 5, 6] [] rfl rfl rfl rfl (by rw [hF]; rfl) ?_
              refine T_nilAt 4 (x' := .sl 3 (List.map a_combination ([] : List combination))) rfl (.inr ⟨_, rfl⟩) rfl ?_
              refine T_nilAt 5 (x' := .sl 3 (List.map a_combination ([] : List combination))) rfl (.inr ⟨_, rfl⟩) rfl ?_
              refine T_ret ?_
              obtain rfl := someI hm
              have hn := CtlOK_out hc1
              exact hx1 (.inr (([] : List combination), ([] : List combination), false)) hn
            · replace hm := condF hq hm
              refine T_skip ?_
              refine T_region ?_
              refine TL_pure rfl rfl rfl rfl (op_move rfl) ?_
              refine TL_pure rfl rfl rfl rfl (op_assign rfl) ?_
              refine TL_nil ?_
              refine T_region ?_
              refine TL_pure rfl rfl rfl rfl (op_addN rfl rfl (Nat.lt_of_lt_of_le hlt1 hlen44)) ?_
              refine TL_pure rfl rfl rfl rfl (op_move rfl) ?_
              refine TL_nil ?_
              refine TR_keepH [7, 8, 43, 44, 45] [35, 156] rfl rfl rfl rfl (by rw [hF]; rfl) ?_
              refine TR_ren [(35, 35), (156, 14)] rfl rfl rfl (by rw [hF]; rfl) ?_
              refine TR_keepH [7, 8, 43, 44, 45] [14, 35] rfl rfl rfl rfl (by rw [hF]; rfl) ?_
              obtain rfl := someI hm
              have hn := CtlOK_next hc1
              exact hn _ rfl
          · unfold m_impl_eliminated_A3 at hm
            obtain rfl := someI hm
            have hn := CtlOK_out hc1
            exact hx1 (.inr (u3.1, u3.2.1, u3.2.2)) hn
        · refine T_seq ?_
          refine T_region ?_
          refine TL_pure rfl rfl rfl rfl (op_lss rfl rfl) ?_
          refine TL_nil ?_
          refine T_seq ?_
          refine T_if_false rfl (decide_eq_false (by simp)) ?_
          refine T_keepH [8, 14, 43, 44, 45] [35, 156] rfl rfl rfl rfl (by rw [hF]; rfl) ?_
          refine T_exit ?_
          exact hx3 (.inl (s3.1, s3.2)) hm
        · unfold m_impl_eliminated_L3 at hm
          refine T_seq ?_
          refine T_region ?_
          refine TL_pure rfl rfl rfl rfl (op_lss rfl rfl) ?_
          refine TL_nil ?_
          refine T_seq ?_
          refine T_if_true rfl (decide_eq_true (Int.ofNat_lt.2 hlt3)) ?_
          refine T_skip ?_
          refine T_seq ?_
          refine T_block ?_
          refine T_seq ?_
          refine T_region ?_
          refine TL_pure rfl rfl rfl rfl (op_index_ow el71 rfl rfl rfl rfl (by simpa using (List.getElem?_eq_some_iff.1 hxn3).1)) ?_
          refine TL_pure rfl rfl rfl rfl (op_loadTN ag77 sz77 rfl rfl (hxn3) rfl rfl rfl) ?_
          refine TL_alloc 199 z77 rfl rfl rfl rfl rfl rfl rfl ?_
          refine TL_store_box sz77 rfl rfl rfl rfl rfl rfl rfl rfl rfl ?_
          refine TL_nil ?_
          refine T_seq ?_
          refine T_region ?_
          refine TL_pure rfl rfl rfl rfl (op_move rfl) ?_
          refine TL_pure rfl rfl rfl rfl (op_lenO Try.underlying71 rfl rfl (List.length_map _)) ?_
          refine TL_pure rfl rfl rfl rfl (op_move rfl) ?_
          refine TL_nil ?_
          refine T_block ?_
          refine T_keepH [7, 8, 13, 14, 18, 43, 44, 45, 65, 66, 67, 71, 72, 73] [14, 35, 156, 199] rfl rfl rfl rfl (by rw [hF]; rfl) ?_
          refine T_loop ?_
          obtain ⟨u4, hl4, hm⟩ := bindS hm
          refine TR_forL2 s1.1 (m_impl_eliminated_L4 x1 x3) (fun (s4 : (List combination) × (List combination)) => (.inl (s4.1, s4.2))) (fun n4 (s4 : (List combination) × (List combination)) => ⟨[(7, .ow 14), (8, .ow 35), (13, .int .i64 x1), (14, .ow 156), (18, .ptr 199 0 0), (43, .sl 1 (List.map a_i64 p1)), (44, .int .i64 (p1.length : Int)), (45, .int .i64 (n1 : Int)), (65, .ow 14), (66, .int .i64 (s1.1.length : Int)), (67, .int .i64 (n3 : Int)), (71, .ow 14), (72, .int .i64 (s1.1.length : Int)), (73, .int .i64 (n4 : Int))], [(14, .arr ⟨false, false⟩ 3 77 (List.map a_combination s1.1)), (35, .arr ⟨false, false⟩ 3 77 (List.map a_combination s4.1)), (156, .arr ⟨false, false⟩ 3 77 (List.map a_combination s4.2)), (199, .box [.int .i64 x3.term.Const, .sl 1 (List.map a_i64 x3.term.Coeffs), .sl 1 (List.map a_i64 x3.by_)])]⟩) (fun u4 => match u4 with | .inl u4 => .exit 8 | .inr u4 => .ret) (fun u4 => match u4 with | .inl u4 => ⟨[(7, .ow 14), (8, .ow 35), (13, .int .i64 x1), (14, .ow 156), (43, .sl 1 (List.map a_i64 p1)), (44, .int .i64 (p1.length : Int)), (45, .int .i64 (n1 : Int)), (65, .ow 14), (66, .int .i64 (s1.1.length : Int)), (67, .int .i64 (n3 : Int))], [(14, .arr ⟨false, false⟩ 3 77 (List.map a_combination s1.1)), (35, .arr ⟨false, false⟩ 3 77 (List.map a_combination u4.1)), (156, .arr ⟨false, false⟩ 3 77 (List.map a_combination u4.2))]⟩ | .inr u4 => ⟨[(4, .sl 3 (List.map a_combination u4.1)), (5, .sl 3 (List.map a_combination u4.2.1)), (6, .bool u4.2.2)], []⟩) (fun u4 => m_impl_eliminated_A4 u4 = some c3) hl4 hm (fun u4 hm => ?_) (fun hx4 s4 hm => ?_) (fun hx4 n4 x4 s4 c4 hxn4 hlt4 hm hc4 => ?_)
          · rcases u4 with u4 | u4
            · unfold m_impl_eliminated_A4 at hm
              refine T_region ?_
              refine TL_pure rfl rfl rfl rfl (op_addN rfl rfl (Nat.lt_of_lt_of_le hlt3 hlen50)) ?_
              refine TL_pure rfl rfl rfl rfl (op_move rfl) ?_
              refine TL_nil ?_
              refine TR_keepH [7, 8, 13, 14, 43, 44, 45, 65, 66, 67] [14, 35, 156] rfl rfl rfl rfl (by rw [hF]; rfl) ?_
              obtain rfl := someI hm
              have hn := CtlOK_next hc3
              exact hn _ rfl
            · unfold m_impl_eliminated_A4 at hm
              obtain rfl := someI hm
              have hn := CtlOK_out hc3
              exact hx3 (.inr (u4.1, u4.2.1, u4.2.2)) hn
          · refine T_seq ?_
            refine T_region ?_
            refine TL_pure rfl rfl rfl rfl (op_lss rfl rfl) ?_
            refine TL_nil ?_
            refine T_seq ?_
            refine T_if_false rfl (decide_eq_false (by simp)) ?_
            refine T_keepH [7, 8, 13, 14, 43, 44, 45, 65, 66, 67] [14, 35, 156] rfl rfl rfl rfl (by rw [hF]; rfl) ?_
            refine T_exit ?_
            exact hx4 (.inl (s4.1, s4.2)) hm
          · unfold m_impl_eliminated_L4 at hm
            refine T_seq ?_
            refine T_region ?_
            refine TL_pure rfl rfl rfl rfl (op_lss rfl rfl) ?_
            refine TL_nil ?_
            refine T_seq ?_
            refine T_if_true rfl (decide_eq_true (Int.ofNat_lt.2 hlt4)) ?_
            refine T_skip ?_
            refine T_seq ?_
            refine T_block ?_
            refine T_seq ?_
            refine T_region ?_
            refine TL_pure rfl rfl rfl rfl (op_index_ow el71 rfl rfl rfl rfl (by simpa using (List.getElem?_eq_some_iff.1 hxn4).1)) ?_
            refine TL_pure rfl rfl rfl rfl (op_loadTN ag77 sz77 rfl rfl (hxn4) rfl rfl rfl) ?_
            refine TL_alloc 212 z77 rfl rfl rfl rfl rfl rfl rfl ?_
            refine TL_store_box sz77 rfl rfl rfl rfl rfl rfl rfl rfl rfl ?_
            refine TL_nil ?_
            refine T_seq ?_
            refine T_seq ?_
            refine T_region ?_
            refine TL_pure rfl rfl rfl rfl (op_fieldAddr fa77_0 rfl rfl) ?_
            refine TL_pure rfl rfl rfl rfl (op_load_agg ag41 sz41 rfl rfl rfl) ?_
            refine TL_pure rfl rfl rfl rfl (op_move rfl) ?_
            obtain ⟨r80, hr80, hm⟩ := bindS hm
            refine TL_callF (ACall.F (F := F) (c_impl_Term_coeff x3.term x1 r80 hr80)) Try.call69 rfl rfl rfl rfl rfl ?_
            refine TL_pure rfl rfl rfl rfl (op_leq rfl rfl) ?_
            refine TL_pure rfl rfl rfl rfl (op_move rfl) ?_
            refine TL_split 82 rfl rfl rfl (fun hq => ?_) (fun hq => ?_)
            · replace hm := condT hq hm
              refine TL_pass rfl rfl rfl rfl rfl rfl rfl ?_
              refine TL_pass rfl rfl rfl rfl rfl rfl rfl ?_
              refine TL_pass rfl rfl rfl rfl rfl rfl rfl ?_
              refine TL_pass rfl rfl rfl rfl rfl rfl rfl ?_
              refine TL_pass rfl rfl rfl rfl rfl rfl rfl ?_
              refine TL_pure rfl rfl rfl rfl (op_pick_true rfl rfl) ?_
              refine TL_nil ?_
              refine T_cond_true rfl ?_
              refine T_exit ?_
              refine T_region ?_
              refine TL_pure rfl rfl rfl rfl (op_addN rfl rfl (Nat.lt_of_lt_of_le hlt4 hlen50)) ?_
              refine TL_pure rfl rfl rfl rfl (op_move rfl) ?_
              refine TL_nil ?_
              refine TR_keepH [7, 8, 13, 14, 18, 43, 44, 45, 65, 66, 67, 71, 72, 73] [14, 35, 156, 199] rfl rfl rfl rfl (by rw [hF]; rfl) ?_
              obtain rfl := someI hm
              have hn := CtlOK_next hc4
              exact hn _ rfl
            · replace hm := condF hq hm
              refine TL_want rfl rfl ?_
              refine TL_pure rfl rfl rfl rfl (op_fieldAddr fa77_0 rfl rfl) ?_
              refine TL_want rfl rfl ?_
              refine TL_pure rfl rfl rfl rfl (op_load_agg ag41 sz41 rfl rfl rfl) ?_
              refine TL_want rfl rfl ?_
              refine TL_pure rfl rfl rfl rfl (op_move rfl) ?_
              refine TL_want rfl rfl ?_
              obtain ⟨r86, hr86, hm⟩ := bindS hm
              refine TL_callF (ACall.F (F := F) (c_impl_Term_coeff x4.term x1 r86 hr86)) Try.call69 rfl rfl rfl rfl rfl ?_
              refine TL_want rfl rfl ?_
              refine TL_pure rfl rfl rfl rfl (op_geq rfl rfl) ?_
              refine TL_pure rfl rfl rfl rfl (op_pick_false rfl rfl) ?_
              refine TL_nil ?_
              refine T_cond rfl (fun hq => ?_) (fun hq => ?_)
              · replace hm := condT hq hm
                refine T_exit ?_
                refine T_region ?_
                refine TL_pure rfl rfl rfl rfl (op_addN rfl rfl (Nat.lt_of_lt_of_le hlt4 hlen50)) ?_
                refine TL_pure rfl rfl rfl rfl (op_move rfl) ?_
                refine TL_nil ?_
                refine TR_keepH [7, 8, 13, 14, 18, 43, 44, 45, 65, 66, 67, 71, 72, 73] [14, 35, 156, 199] rfl rfl rfl rfl (by rw [hF]; rfl) ?_
                obtain rfl := someI hm
                have hn := CtlOK_next hc4
                exact hn _ rfl
              · replace hm := condF hq hm
                refine T_skip ?_
                refine T_seq ?_
                refine T_region ?_
                refine TL_pure rfl rfl rfl rfl (op_load_agg ag77 sz77 rfl rfl rfl) ?_
                refine TL_pure rfl rfl rfl rfl (op_load_agg ag77 sz77 rfl rfl rfl) ?_
                refine TL_pure rfl rfl rfl rfl (op_move rfl) ?_
                obtain ⟨r93, hr93, hm⟩ := bindS hm
                refine TL_callO [(1000, 213), (1001, 214)] (ACall.F (F := F) (c_impl_cancelled x3 x4 x1 r93 hr93)) Try.call96 rfl rfl rfl rfl rfl rfl rfl rfl rfl rfl rfl rfl rfl ?_
                refine TL_pure rfl rfl rfl rfl (op_move rfl) ?_
                refine TL_pure rfl rfl rfl rfl (op_extract rfl rfl) ?_
                refine TL_pure rfl rfl rfl rfl (op_extract rfl rfl) ?_
                refine TL_alloc 215 z77 rfl rfl rfl rfl rfl rfl rfl ?_
                refine TL_store_box sz77 rfl rfl rfl rfl rfl rfl rfl rfl rfl ?_
                refine TL_pure rfl rfl rfl rfl (op_assign rfl) ?_
                refine TL_nil ?_
                refine T_seq ?_
                refine T_seq ?_
                refine T_region ?_
                refine TL_pure rfl rfl rfl rfl (op_move rfl) ?_
                refine TL_pure rfl rfl rfl rfl (op_not rfl) ?_
                refine TL_pure rfl rfl rfl rfl (op_move rfl) ?_
                refine TL_join 4 (fun _ : Unit => ⟨[(7, .ow 14), (8, .ow 35), (13, .int .i64 x1), (14, .ow 156), (18, .ptr 199 0 0), (21, .ptr 215 0 0), (43, .sl 1 (List.map a_i64 p1)), (44, .int .i64 (p1.length : Int)), (45, .int .i64 (n1 : Int)), (65, .ow 14), (66, .int .i64 (s1.1.length : Int)), (67, .int .i64 (n3 : Int)), (71, .ow 14), (72, .int .i64 (s1.1.length : Int)), (73, .int .i64 (n4 : Int)), (83, .ptr 212 0 0), (84, .agg [.int .i64 x4.term.Const, .sl 1 (List.map a_i64 x4.term.Coeffs)]), (85, .int .i64 x1), (86, .int .i64 r86), (87, .bool (decide ((0 : Int) ≤ r86))), (102, .bool ((!r93.2) || (decide ((s4.2.length : Int) = (60 : Int)))))], [(14, .arr ⟨false, false⟩ 3 77 (List.map a_combination s1.1)), (35, .arr ⟨false, false⟩ 3 77 (List.map a_combination s4.1)), (156, .arr ⟨false, false⟩ 3 77 (List.map a_combination s4.2)), (199, .box [.int .i64 x3.term.Const, .sl 1 (List.map a_i64 x3.term.Coeffs), .sl 1 (List.map a_i64 x3.by_)]), (212, .box [.int .i64 x4.term.Const, .sl 1 (List.map a_i64 x4.term.Coeffs), .sl 1 (List.map a_i64 x4.by_)]), (213, .arr ⟨false, true⟩ 1 2 (List.map a_i64 r93.1.term.Coeffs)), (214, .arr ⟨false, true⟩ 1 2 (List.map a_i64 r93.1.by_)), (215, .box [.int .i64 r93.1.term.Const, .ow 213, .ow 214])]⟩) (fun _ => True) (fun _ _ => ?_) (fun hjj => ?_)
                · refine TL_nil ?_
                  refine T_cond rfl (fun hq => ?_) (fun hq => ?_)
                  · replace hm := condT hq hm
                    refine T_seq ?_
                    refine T_region ?_
                    refine TL_pure rfl rfl rfl rfl (op_assign rfl) ?_
                    refine TL_pure rfl rfl rfl rfl (op_assign rfl) ?_
                    refine TL_pure rfl rfl rfl rfl (op_assign rfl) ?_
                    refine TL_nil ?_
                    refine T_keepH [4, 5, 6] [] rfl rfl rfl rfl (by rw [hF]; rfl) ?_
                    refine T_nilAt 4 (x' := .sl 3 (List.map a_combination ([] : List combination))) rfl (.inr ⟨_, rfl⟩) rfl ?_
                    refine T_nilAt 5 (x' := .sl 3 (List.map a_combination ([] : List combination))) rfl (.inr ⟨_, rfl⟩) rfl ?_
                    refine T_ret ?_
                    obtain rfl := someI hm
                    have hn := CtlOK_out hc4
                    exact hx4 (.inr (([] : List combination), ([] : List combination), false)) hn
                  · replace hm := condF hq hm
                    refine T_skip ?_
                    refine T_seq ?_
                    refine T_region ?_
                    refine TL_pure rfl rfl rfl rfl (op_move rfl) ?_
                    refine TL_pure rfl rfl rfl rfl (op_load_agg ag77 sz77 rfl rfl rfl) ?_
                    refine TL_freeze 213 (by rw [hF]; rfl) rfl rfl rfl ?_
                    refine TL_freeze 214 (by rw [hF]; rfl) rfl rfl rfl ?_
                    refine TL_buildSlice 216 (es := List.map a_combination [r93.1]) el71 z77 rfl rfl rfl rfl rfl rfl rfl rfl rfl ?_
                    obtain ⟨q106, hq106, hm⟩ := bindS hm
                    refine TL_appendT (f := a_combination) (a := s4.2) (b := [r93.1]) el71 z77 rfl rfl rfl rfl rfl rfl rfl (capI_spec hq106) rfl rfl rfl rfl rfl ?_
                    refine TL_pure rfl rfl rfl rfl (op_assign rfl) ?_
                    refine TL_nil ?_
                    refine T_region ?_
                    refine TL_pure rfl rfl rfl rfl (op_move rfl) ?_
                    refine TL_pure rfl rfl rfl rfl (op_load_agg ag77 sz77 rfl rfl rfl) ?_
                    refine TL_buildSlice 217 (es := List.map a_combination [r93.1]) el71 z77 rfl rfl rfl rfl rfl rfl rfl rfl rfl ?_
                    obtain ⟨q110, hq110, hm⟩ := bindS hm
                    refine TL_appendT (f := a_combination) (a := s4.1) (b := [r93.1]) el71 z77 rfl rfl rfl rfl rfl rfl rfl (capI_spec hq110) rfl rfl rfl rfl rfl ?_
                    refine TL_pure rfl rfl rfl rfl (op_assign rfl) ?_
                    refine TL_nil ?_
                    refine T_region ?_
                    refine TL_pure rfl rfl rfl rfl (op_addN rfl rfl (Nat.lt_of_lt_of_le hlt4 hlen50)) ?_
                    refine TL_pure rfl rfl rfl rfl (op_move rfl) ?_
                    refine TL_nil ?_
                    refine TR_keepH [7, 8, 13, 14, 18, 43, 44, 45, 65, 66, 67, 71, 72, 73] [14, 35, 156, 199] rfl rfl rfl rfl (by rw [hF]; rfl) ?_
                    obtain rfl := someI hm
                    have hn := CtlOK_next hc4
                    exact hn _ rfl
                · refine TL_split 98 rfl rfl rfl (fun hq => ?_) (fun hq => ?_)
                  · refine TL_pass rfl rfl rfl rfl rfl rfl rfl ?_
                    refine TL_pass rfl rfl rfl rfl rfl rfl rfl ?_
                    refine TL_pass rfl rfl rfl rfl rfl rfl rfl ?_
                    refine TL_pure rfl rfl rfl rfl (op_pick_true rfl rfl) ?_
                    refine TL_keepH [7, 8, 13, 14, 18, 21, 43, 44, 45, 65, 66, 67, 71, 72, 73, 83, 84, 85, 86, 87, 102] [14, 35, 156, 199, 212, 213, 214, 215] rfl rfl rfl rfl (by rw [hF]; rfl) ?_
                    exact TL_cast _ (by first | (rw [hq, Bool.true_or]; done) | (rw [hq]; rfl)) (hjj () trivial)
                  · refine TL_want rfl rfl ?_
                    refine TL_pure rfl rfl rfl rfl (op_move rfl) ?_
                    refine TL_want rfl rfl ?_
                    refine TL_pure rfl rfl rfl rfl (op_lenO Try.underlying71 rfl rfl (List.length_map _)) ?_
                    refine TL_fact (fun _ _ _ hr => RelP.owLen (id := 156) rfl hr) (fun hlen100 => ?_)
                    rw [List.length_map] at hlen100
                    refine TL_want rfl rfl ?_
                    refine TL_pure rfl rfl rfl rfl (op_eql rfl rfl) ?_
                    refine TL_pure rfl rfl rfl rfl (op_pick_false rfl rfl) ?_
                    refine TL_keepH [7, 8, 13, 14, 18, 21, 43, 44, 45, 65, 66, 67, 71, 72, 73, 83, 84, 85, 86, 87, 102] [14, 35, 156, 199, 212, 213, 214, 215] rfl rfl rfl rfl (by rw [hF]; rfl) ?_
                    exact TL_cast _ (by first | (rw [hq, Bool.false_or]; done) | (rw [hq]; rfl)) (hjj () trivial)
      · refine T_seq ?_
        refine T_region ?_
        refine TL_pure rfl rfl rfl rfl (op_lss rfl rfl) ?_
        refine TL_nil ?_
        refine T_seq ?_
        refine T_if_false rfl (decide_eq_false (by simp)) ?_
        refine T_keepH [7, 8, 13, 14, 43, 44, 45] [14, 35, 156] rfl rfl rfl rfl (by rw [hF]; rfl) ?_
        refine T_exit ?_
        exact hx2 s2 hm
      · unfold m_impl_eliminated_L2 at hm
        refine T_seq ?_
        refine T_region ?_
        refine TL_pure rfl rfl rfl rfl (op_lss rfl rfl) ?_
        refine TL_nil ?_
        refine T_seq ?_
        refine T_if_true rfl (decide_eq_true (Int.ofNat_lt.2 hlt2)) ?_
        refine T_skip ?_
        refine T_seq ?_
        refine T_block ?_
        refine T_seq ?_
        refine T_region ?_
        refine TL_pure rfl rfl rfl rfl (op_index_ow el71 rfl rfl rfl rfl (by simpa using (List.getElem?_eq_some_iff.1 hxn2).1)) ?_
        refine TL_pure rfl rfl rfl rfl (op_loadTN ag77 sz77 rfl rfl (hxn2) rfl rfl rfl) ?_
        refine TL_alloc 159 z77 rfl rfl rfl rfl rfl rfl rfl ?_
        refine TL_store_box sz77 rfl rfl rfl rfl rfl rfl rfl rfl rfl ?_
        refine TL_nil ?_
        refine T_seq ?_
        refine T_region ?_
        refine TL_pure rfl rfl rfl rfl (op_fieldAddr fa77_0 rfl rfl) ?_
        refine TL_pure rfl rfl rfl rfl (op_load_agg ag41 sz41 rfl rfl rfl) ?_
        refine TL_pure rfl rfl rfl rfl (op_move rfl) ?_
        obtain ⟨r58, hr58, hm⟩ := bindS hm
        refine TL_callF (ACall.F (F := F) (c_impl_Term_coeff x2.term x1 r58 hr58)) Try.call69 rfl rfl rfl rfl rfl ?_
        refine TL_pure rfl rfl rfl rfl (op_eql rfl rfl) ?_
        refine TL_nil ?_
        refine T_cond rfl (fun hq => ?_) (fun hq => ?_)
        · replace hm := condT hq hm
          refine T_region ?_
          refine TL_pure rfl rfl rfl rfl (op_move rfl) ?_
          refine TL_pure rfl rfl rfl rfl (op_load_agg ag77 sz77 rfl rfl rfl) ?_
          refine TL_buildSlice 160 (es := List.map a_combination [x2]) el71 z77 rfl rfl rfl rfl rfl rfl rfl rfl rfl ?_
          obtain ⟨q63, hq63, hm⟩ := bindS hm
          refine TL_appendT (f := a_combination) (a := s2) (b := [x2]) el71 z77 rfl rfl rfl rfl rfl rfl rfl (capI_spec hq63) rfl rfl rfl rfl rfl ?_
          refine TL_pure rfl rfl rfl rfl (op_assign rfl) ?_
          refine TL_nil ?_
          refine T_region ?_
          refine TL_pure rfl rfl rfl rfl (op_addN rfl rfl (Nat.lt_of_lt_of_le hlt2 hlen50)) ?_
          refine TL_pure rfl rfl rfl rfl (op_move rfl) ?_
          refine TL_nil ?_
          refine TR_keepH [7, 8, 13, 14, 43, 44, 45, 49, 50, 51] [14, 35, 156] rfl rfl rfl rfl (by rw [hF]; rfl) ?_
          obtain rfl := someI hm
          have hn := CtlOK_next hc2
          exact hn _ rfl
        · replace hm := condF hq hm
          refine T_skip ?_
          refine T_region ?_
          refine TL_pure rfl rfl rfl rfl (op_addN rfl rfl (Nat.lt_of_lt_of_le hlt2 hlen50)) ?_
          refine TL_pure rfl rfl rfl rfl (op_move rfl) ?_
          refine TL_nil ?_
          refine TR_keepH [7, 8, 13, 14, 43, 44, 45, 49, 50, 51] [14, 35, 156] rfl rfl rfl rfl (by rw [hF]; rfl) ?_
          obtain rfl := someI hm
          have hn := CtlOK_next hc2
          exact hn _ rfl
  · refine T_seq ?_
    refine T_region ?_
    refine TL_pure rfl rfl rfl rfl (op_lss rfl rfl) ?_
    refine TL_nil ?_
    refine T_seq ?_
    refine T_if_false rfl (decide_eq_false (by simp)) ?_
    refine T_keepH [1, 7, 8] [14] rfl rfl rfl rfl (by rw [hF]; rfl) ?_
    refine T_exit ?_
    exact hx0 s0 hm
  · unfold m_impl_eliminated_L0 at hm
    refine T_seq ?_
    refine T_region ?_
    refine TL_pure rfl rfl rfl rfl (op_lss rfl rfl) ?_
    refine TL_nil ?_
    refine T_seq ?_
    refine T_if_true rfl (decide_eq_true (Int.ofNat_lt.2 hlt0)) ?_
    refine T_skip ?_
    refine T_seq ?_
    refine T_block ?_
    refine T_seq ?_
    refine T_region ?_
    refine TL_pure rfl rfl rfl rfl (op_move rfl) ?_
    refine TL_pure rfl rfl rfl rfl (op_index_sl el24 rfl rfl rfl (get_map hxn0) rfl) ?_
    refine TL_pure rfl rfl rfl rfl (op_load_agg ag41 sz41 rfl rfl rfl) ?_
    refine TL_alloc 18 z41 rfl rfl rfl rfl rfl rfl rfl ?_
    refine TL_pure rfl rfl rfl rfl (op_assign rfl) ?_
    refine TL_store_box sz41 rfl rfl rfl rfl rfl rfl rfl rfl rfl ?_
    refine TL_nil ?_
    refine T_seq ?_
    refine T_region ?_
    refine TL_pure rfl rfl rfl rfl (op_move rfl) ?_
    refine TL_pure rfl rfl rfl rfl (op_lenT Try.underlying24 rfl (List.length_map _)) ?_
    obtain ⟨k32, hk32, hm⟩ := bindS hm
    refine TL_make 19 (n := k32) el26 z2 rfl rfl rfl rfl rfl rfl (makeI_spec hk32).1 (makeI_spec hk32).1 (makeI_spec hk32).2 rfl rfl rfl rfl ?_
    refine TL_nils 19 (List.map a_i64 (List.replicate k32 (0 : Int))) (by rw [hF]; rfl) rfl (ElR.rep (z := .int .i64 (0 : Int)) (g := a_i64) (x := (0 : Int)) ⟨⟨rfl, rfl⟩, trivial⟩ k32) rfl ?_
    refine TL_pure rfl rfl rfl rfl (op_assign rfl) ?_
    refine TL_nil ?_
    refine T_seq ?_
    refine T_region ?_
    refine TL_pure rfl rfl rfl rfl (op_move rfl) ?_
    refine TL_pure rfl rfl rfl rfl (op_move rfl) ?_
    obtain ⟨x35, hx35, hm⟩ := bindS hm
    refine TL_pure rfl rfl rfl rfl (op_indexO el26 rfl rfl rfl hx35) ?_
    refine TL_storeT sz2 rfl rfl ((getI_spec hx35).2) (v' := (1 : Int)) rfl rfl rfl rfl rfl rfl rfl rfl rfl rfl ?_
    refine TL_nil ?_
    refine T_region ?_
    refine TL_pure rfl rfl rfl rfl (op_move rfl) ?_
    refine TL_pure rfl rfl rfl rfl (op_load_agg ag41 sz41 rfl rfl rfl) ?_
    refine TL_pure rfl rfl rfl rfl (op_move rfl) ?_
    refine TL_pure rfl rfl rfl rfl (op_buildP pl77 z77 rfl rfl rfl rfl rfl) ?_
    refine TL_freeze 19 (by rw [hF]; rfl) rfl rfl rfl ?_
    refine TL_buildSlice 20 (es := List.map a_combination [(combination.mk x0 ((List.replicate k32 (0 : Int)).set (((n0 : Int)).toNat) (1 : Int)))]) el71 z77 rfl rfl rfl rfl rfl rfl rfl rfl rfl ?_
    obtain ⟨q41, hq41, hm⟩ := bindS hm
    refine TL_appendT (f := a_combination) (a := s0) (b := [(combination.mk x0 ((List.replicate k32 (0 : Int)).set (((n0 : Int)).toNat) (1 : Int)))]) el71 z77 rfl rfl rfl rfl rfl rfl rfl (capI_spec hq41) rfl rfl rfl rfl rfl ?_
    refine TL_pure rfl rfl rfl rfl (op_assign rfl) ?_
    refine TL_nil ?_
    refine T_region ?_
    refine TL_pure rfl rfl rfl rfl (op_addN rfl rfl (Nat.lt_of_lt_of_le hlt0 hlen24)) ?_
    refine TL_pure rfl rfl rfl rfl (op_move rfl) ?_
    refine TL_nil ?_
    refine TR_keepH [0, 1, 7, 8, 23, 24, 25] [14] rfl rfl rfl rfl (by rw [hF]; rfl) ?_
    obtain rfl := someI hm
    have hn := CtlOK_next hc0
    exact hn _ rfl
theorem c_impl_RefuteFacts (p0 : List Term) (out : (List Int) × Bool) (hm : m_impl_RefuteFacts p0 = some out) : ACall Try.prog 12 [.sl 2 (List.map a_Term p0)] [] (.tup [.ow 1000, .bool out.2]) [(1000, .arr ⟨false, true⟩ 1 2 (List.map a_i64 out.1))] := by
  refine ACall.intro Try.func12 rfl Try.ntmps12 rfl (fun F hF => ?_)
  unfold m_impl_RefuteFacts at hm
  refine T_seq ?_
  refine T_region ?_
  refine TL_pure rfl rfl rfl rfl (op_assign rfl) ?_
  refine TL_pure rfl rfl rfl rfl (op_assign rfl) ?_
  refine TL_nil ?_
  refine T_seq ?_
  refine T_seq ?_
  refine T_region ?_
  refine TL_pure rfl rfl rfl rfl (op_move rfl) ?_
  obtain ⟨r10, hr10, hm⟩ := bindS hm
  refine TL_callF (ACall.F (F := F) (c_impl_ValidFacts p0 r10 hr10)) Try.call48 rfl rfl rfl rfl rfl ?_
  refine TL_pure rfl rfl rfl rfl (op_not rfl) ?_
  refine TL_nil ?_
  refine T_cond rfl (fun hq => ?_) (fun hq => ?_)
  · replace hm := condT hq hm
    refine T_seq ?_
    refine T_region ?_
    refine TL_pure rfl rfl rfl rfl (op_assign rfl) ?_
    refine TL_pure rfl rfl rfl rfl (op_assign rfl) ?_
    refine TL_nil ?_
    refine T_ownNil 2 11 ⟨false, true⟩ 2 rfl rfl (sz := 1) rfl rfl rfl ?_
    refine T_keepH [2, 3] [11] rfl rfl rfl rfl (by rw [hF]; rfl) ?_
    refine T_ren [(11, 1000)] rfl rfl rfl (by rw [hF]; rfl) ?_
    refine T_ret ?_
    obtain rfl := someI hm
    refine ⟨[_, _], [1000], ⟨rfl, rfl, trivial⟩, ?_, rfl, rfl, rfl, rfl⟩
    rfl
  · replace hm := condF hq hm
    refine T_skip ?_
    refine T_seq ?_
    refine T_region ?_
    refine TL_pure rfl rfl rfl rfl (op_move rfl) ?_
    obtain ⟨r14, hr14, hm⟩ := bindS hm
    refine TL_callO [(1000, 12)] (ACall.F (F := F) (c_impl_allSymbols (10 : Int) r14 hr14)) Try.call50 rfl rfl rfl rfl rfl rfl rfl rfl rfl rfl rfl rfl rfl ?_
    refine TL_freeze 12 (by rw [hF]; rfl) rfl rfl rfl ?_
    obtain ⟨r15, hr15, hm⟩ := bindS hm
    refine TL_callT (ACall.F (F := F) (c_impl_eliminated p0 r14 r15 hr15)) Try.call49 rfl rfl rfl rfl rfl ?_
    refine TL_pure rfl rfl rfl rfl (op_move rfl) ?_
    refine TL_pure rfl rfl rfl rfl (op_extract rfl rfl) ?_
    refine TL_pure rfl rfl rfl rfl (op_extract rfl rfl) ?_
    refine TL_pure rfl rfl rfl rfl (op_extract rfl rfl) ?_
    refine TL_pure rfl rfl rfl rfl (op_assign rfl) ?_
    refine TL_pure rfl rfl rfl rfl (op_assign rfl) ?_
    refine TL_pure rfl rfl rfl rfl (op_assign rfl) ?_
    refine TL_nil ?_
    refine T_seq ?_
    refine T_seq ?_
    refine T_region ?_
    refine TL_pure rfl rfl rfl rfl (op_move rfl) ?_
    refine TL_pure rfl rfl rfl rfl (op_not rfl) ?_
    refine TL_nil ?_
    refine T_cond rfl (fun hq => ?_) (fun hq => ?_)
    · replace hm := condT hq hm
      refine T_seq ?_
      refine T_region ?_
      refine TL_pure rfl rfl rfl rfl (op_assign rfl) ?_
      refine TL_pure rfl rfl rfl rfl (op_assign rfl) ?_
      refine TL_nil ?_
      refine T_ownNil 2 13 ⟨false, true⟩ 2 rfl rfl (sz := 1) rfl rfl rfl ?_
      refine T_keepH [2, 3] [13] rfl rfl rfl rfl (by rw [hF]; rfl) ?_
      refine T_ren [(13, 1000)] rfl rfl rfl (by rw [hF]; rfl) ?_
      refine T_ret ?_
      obtain rfl := someI hm
      refine ⟨[_, _], [1000], ⟨rfl, rfl, trivial⟩, ?_, rfl, rfl, rfl, rfl⟩
      rfl
    · replace hm := condF hq hm
      refine T_skip ?_
      refine T_seq ?_
      refine T_seq ?_
      refine T_region ?_
      refine TL_pure rfl rfl rfl rfl (op_move rfl) ?_
      refine TL_pure rfl rfl rfl rfl (op_lenT Try.underlying71 rfl (List.length_map _)) ?_
      refine TL_fact (fun _ _ _ hr => RelP.slLen (i := 21) rfl hr) (fun hlen22 => ?_)
      rw [List.length_map] at hlen22
      refine TL_pure rfl rfl rfl rfl (op_move rfl) ?_
      refine TL_nil ?_
      refine T_block ?_
      refine T_keepH [21, 22, 23] [] rfl rfl rfl rfl (by rw [hF]; rfl) ?_
      refine T_loop ?_
      obtain ⟨u0, hl0, hm⟩ := bindS hm
      refine TR_forL2 r15.1 (m_impl_RefuteFacts_L0) (fun (s0 : Unit) => (.inl ())) (fun n0 (s0 : Unit) => ⟨[(21, .sl 3 (List.map a_combination r15.1)), (22, .int .i64 (r15.1.length : Int)), (23, .int .i64 (n0 : Int))], []⟩) (fun u0 => match u0 with | .inl u0 => .exit 0 | .inr u0 => .ret) (fun u0 => match u0 with | .inl u0 => ⟨[], []⟩ | .inr u0 => ⟨[(2, .ow 1000), (3, .bool u0.2)], [(1000, .arr ⟨false, true⟩ 1 2 (List.map a_i64 u0.1))]⟩) (fun u0 => m_impl_RefuteFacts_A0 u0 = some out) hl0 hm (fun u0 hm => ?_) (fun hx0 s0 hm => ?_) (fun hx0 n0 x0 s0 c0 hxn0 hlt0 hm hc0 => ?_)
      · rcases u0 with u0 | u0
        · unfold m_impl_RefuteFacts_A0 at hm
          refine T_seq ?_
          refine T_region ?_
          refine TL_pure rfl rfl rfl rfl (op_assign rfl) ?_
          refine TL_pure rfl rfl rfl rfl (op_assign rfl) ?_
          refine TL_nil ?_
          refine T_ownNil 2 18 ⟨false, true⟩ 2 rfl rfl (sz := 1) rfl rfl rfl ?_
          refine T_keepH [2, 3] [18] rfl rfl rfl rfl (by rw [hF]; rfl) ?_
          refine T_ren [(18, 1000)] rfl rfl rfl (by rw [hF]; rfl) ?_
          refine T_ret ?_
          obtain rfl := someI hm
          refine ⟨[_, _], [1000], ⟨rfl, rfl, trivial⟩, ?_, rfl, rfl, rfl, rfl⟩
          rfl
        · unfold m_impl_RefuteFacts_A0 at hm
          obtain rfl := someI hm
          refine ⟨[_, _], [1000], ⟨rfl, rfl, trivial⟩, ?_, rfl, rfl, rfl, rfl⟩
          rfl
      · refine T_seq ?_
        refine T_region ?_
        refine TL_pure rfl rfl rfl rfl (op_lss rfl rfl) ?_
        refine TL_nil ?_
        refine T_seq ?_
        refine T_if_false rfl (decide_eq_false (by simp)) ?_
        refine T_keepH [] [] rfl rfl rfl rfl (by rw [hF]; rfl) ?_
        refine T_exit ?_
        exact hx0 (.inl ()) hm
      · unfold m_impl_RefuteFacts_L0 at hm
        refine T_seq ?_
        refine T_region ?_
        refine TL_pure rfl rfl rfl rfl (op_lss rfl rfl) ?_
        refine TL_nil ?_
        refine T_seq ?_
        refine T_if_true rfl (decide_eq_true (Int.ofNat_lt.2 hlt0)) ?_
        refine T_skip ?_
        refine T_seq ?_
        refine T_block ?_
        refine T_seq ?_
        refine T_region ?_
        refine TL_pure rfl rfl rfl rfl (op_index_sl el71 rfl rfl rfl (get_map hxn0) rfl) ?_
        refine TL_pure rfl rfl rfl rfl (op_load_agg ag77 sz77 rfl rfl rfl) ?_
        refine TL_alloc 16 z77 rfl rfl rfl rfl rfl rfl rfl ?_
        refine TL_store_box sz77 rfl rfl rfl rfl rfl rfl rfl rfl rfl ?_
        refine TL_nil ?_
        refine T_seq ?_
        refine T_region ?_
        refine TL_pure rfl rfl rfl rfl (op_fieldAddr fa77_0 rfl rfl) ?_
        refine TL_pure rfl rfl rfl rfl (op_fieldAddr fa41_0 rfl rfl) ?_
        refine TL_pure rfl rfl rfl rfl (op_load_one ag2 rfl rfl) ?_
        refine TL_pure rfl rfl rfl rfl (op_lss rfl rfl) ?_
        refine TL_nil ?_
        refine T_cond rfl (fun hq => ?_) (fun hq => ?_)
        · replace hm := condT hq hm
          refine T_seq ?_
          refine T_region ?_
          refine TL_pure rfl rfl rfl rfl (op_fieldAddr fa77_1 rfl rfl) ?_
          refine TL_pure rfl rfl rfl rfl (op_load_one ag26 rfl rfl) ?_
          obtain ⟨r33, hr33, hm⟩ := bindS hm
          refine TL_callO [(1000, 17)] (ACall.F (F := F) (c_impl_copyInts x0.by_ r33 hr33)) Try.call51 rfl rfl rfl rfl rfl rfl rfl rfl rfl rfl rfl rfl rfl ?_
          refine TL_pure rfl rfl rfl rfl (op_assign rfl) ?_
          refine TL_pure rfl rfl rfl rfl (op_assign rfl) ?_
          refine TL_nil ?_
          refine T_keepH [2, 3] [17] rfl rfl rfl rfl (by rw [hF]; rfl) ?_
          refine T_ren [(17, 1000)] rfl rfl rfl (by rw [hF]; rfl) ?_
          refine T_ret ?_
          obtain rfl := someI hm
          have hn := CtlOK_out hc0
          exact hx0 (.inr (r33, true)) hn
        · replace hm := condF hq hm
          refine T_skip ?_
          refine T_region ?_
          refine TL_pure rfl rfl rfl rfl (op_addN rfl rfl (Nat.lt_of_lt_of_le hlt0 hlen22)) ?_
          refine TL_pure rfl rfl rfl rfl (op_move rfl) ?_
          refine TL_nil ?_
          refine TR_keepH [21, 22, 23] [] rfl rfl rfl rfl (by rw [hF]; rfl) ?_
          obtain rfl := someI hm
          have hn := CtlOK_next hc0
          exact hn _ rfl
theorem c_impl_firstCut (p0 : List Term) (out : Term × combination × Bool) (hm : m_impl_firstCut p0 = some out) : ACall Try.prog 66 [.sl 2 (List.map a_Term p0)] [] (.tup [.agg [.int .i64 out.1.Const, .ow 1000], .agg [.int .i64 out.2.1.term.Const, .sl 1 (List.map a_i64 out.2.1.term.Coeffs), .sl 1 (List.map a_i64 out.2.1.by_)], .bool out.2.2]) [(1000, .arr ⟨false, true⟩ 1 2 (List.map a_i64 out.1.Coeffs))] := by
  refine ACall.intro Try.func66 rfl Try.ntmps66 rfl (fun F hF => ?_)
  unfold m_impl_firstCut at hm
  refine T_seq ?_
  refine T_region ?_
  refine TL_alloc 11 z41 rfl rfl rfl rfl rfl rfl rfl ?_
  refine TL_alloc 12 z77 rfl rfl rfl rfl rfl rfl rfl ?_
  refine TL_pure rfl rfl rfl rfl (op_assign rfl) ?_
  refine TL_nil ?_
  refine T_seq ?_
  refine T_region ?_
  refine TL_pure rfl rfl rfl rfl (op_move rfl) ?_
  obtain ⟨r14, hr14, hm⟩ := bindS hm
  refine TL_callO [(1000, 13)] (ACall.F (F := F) (c_impl_allSymbols (10 : Int) r14 hr14)) Try.call50 rfl rfl rfl rfl rfl rfl rfl rfl rfl rfl rfl rfl rfl ?_
  refine TL_freeze 13 (by rw [hF]; rfl) rfl rfl rfl ?_
  obtain ⟨r15, hr15, hm⟩ := bindS hm
  refine TL_callT (ACall.F (F := F) (c_impl_eliminated p0 r14 r15 hr15)) Try.call49 rfl rfl rfl rfl rfl ?_
  refine TL_pure rfl rfl rfl rfl (op_move rfl) ?_
  refine TL_pure rfl rfl rfl rfl (op_extract rfl rfl) ?_
  refine TL_pure rfl rfl rfl rfl (op_extract rfl rfl) ?_
  refine TL_pure rfl rfl rfl rfl (op_extract rfl rfl) ?_
  refine TL_pure rfl rfl rfl rfl (op_assign rfl) ?_
  refine TL_pure rfl rfl rfl rfl (op_assign rfl) ?_
  refine TL_pure rfl rfl rfl rfl (op_assign rfl) ?_
  refine TL_nil ?_
  refine T_seq ?_
  refine T_seq ?_
  refine T_region ?_
  refine TL_pure rfl rfl rfl rfl (op_move rfl) ?_
  refine TL_pure rfl rfl rfl rfl (op_not rfl) ?_
  refine TL_nil ?_
  refine T_cond rfl (fun hq => ?_) (fun hq => ?_)
  · replace hm := condT hq hm
    refine T_seq ?_
    refine T_region ?_
    refine TL_pure rfl rfl rfl rfl (op_buildP pl41 z41 rfl rfl rfl rfl rfl) ?_
    refine TL_pure rfl rfl rfl rfl (op_buildP pl77 z77 rfl rfl rfl rfl rfl) ?_
    refine TL_store_box sz41 rfl rfl rfl rfl rfl rfl rfl rfl rfl ?_
    refine TL_store_box sz77 rfl rfl rfl rfl rfl rfl rfl rfl rfl ?_
    refine TL_pure rfl rfl rfl rfl (op_assign rfl) ?_
    refine TL_nil ?_
    refine T_ownNilBox 11 1 14 ⟨false, true⟩ 2 rfl rfl rfl (sz := 1) rfl rfl rfl rfl ?_
    refine T_keepH [2, 3, 4] [11, 12, 14] rfl rfl rfl rfl (by rw [hF]; rfl) ?_
    refine T_nilBox 12 (cs' := [.int .i64 (0 : Int), .sl 1 (List.map a_i64 ([] : List Int)), .sl 1 (List.map a_i64 ([] : List Int))]) rfl (⟨_, _, rfl, rfl, ⟨_, _, rfl, .inr ⟨_, rfl⟩, ⟨_, _, rfl, .inr ⟨_, rfl⟩, rfl⟩⟩⟩) rfl ?_
    refine T_ren [(11, 11), (12, 12), (14, 1000)] rfl rfl rfl (by rw [hF]; rfl) ?_
    refine T_ret ?_
    obtain rfl := someI hm
    refine ⟨[_, _, _], [1000], ⟨⟨_, _, rfl, rfl, .inr ⟨ag41, _, _, sz41, rfl, rfl⟩⟩, ⟨_, _, rfl, rfl, .inr ⟨ag77, _, _, sz77, rfl, rfl⟩⟩, rfl, trivial⟩, ?_, rfl, rfl, rfl, rfl⟩
    rfl
  · replace hm := condF hq hm
    refine T_skip ?_
    refine T_seq ?_
    refine T_seq ?_
    refine T_region ?_
    refine TL_pure rfl rfl rfl rfl (op_move rfl) ?_
    refine TL_pure rfl rfl rfl rfl (op_lenT Try.underlying71 rfl (List.length_map _)) ?_
    refine TL_fact (fun _ _ _ hr => RelP.slLen (i := 23) rfl hr) (fun hlen24 => ?_)
    rw [List.length_map] at hlen24
    refine TL_pure rfl rfl rfl rfl (op_move rfl) ?_
    refine TL_nil ?_
    refine T_block ?_
    refine T_keepH [0, 2, 3, 23, 24, 25] [11, 12] rfl rfl rfl rfl (by rw [hF]; rfl) ?_
    refine T_loop ?_
    obtain ⟨u0, hl0, hm⟩ := bindS hm
    refine TR_forL2 r15.2.1 (m_impl_firstCut_L0 p0) (fun (s0 : Unit) => (.inl ())) (fun n0 (s0 : Unit) => ⟨[(0, .sl 2 (List.map a_Term p0)), (2, .ptr 11 0 0), (3, .ptr 12 0 0), (23, .sl 3 (List.map a_combination r15.2.1)), (24, .int .i64 (r15.2.1.length : Int)), (25, .int .i64 (n0 : Int))], [(11, .box [.int .i64 (0 : Int), .snil]), (12, .box [.int .i64 (0 : Int), .snil, .snil])]⟩) (fun u0 => match u0 with | .inl u0 => .exit 0 | .inr u0 => .ret) (fun u0 => match u0 with | .inl u0 => ⟨[(2, .ptr 11 0 0), (3, .ptr 12 0 0)], [(11, .box [.int .i64 (0 : Int), .snil]), (12, .box [.int .i64 (0 : Int), .snil, .snil])]⟩ | .inr u0 => ⟨[(2, .ptr 11 0 0), (3, .ptr 12 0 0), (4, .bool u0.2.2.2.2.2)], [(11, .box [.int .i64 u0.1, .ow 1000]), (12, .box [.int .i64 u0.2.2.1, .sl 1 (List.map a_i64 u0.2.2.2.1), .sl 1 (List.map a_i64 u0.2.2.2.2.1)]), (1000, .arr ⟨false, true⟩ 1 2 (List.map a_i64 u0.2.1))]⟩) (fun u0 => m_impl_firstCut_A0 u0 = some out) hl0 hm (fun u0 hm => ?_) (fun hx0 s0 hm => ?_) (fun hx0 n0 x0 s0 c0 hxn0 hlt0 hm hc0 => ?_)
    · rcases u0 with u0 | u0
      · unfold m_impl_firstCut_A0 at hm
        refine T_seq ?_
        refine T_region ?_
        refine TL_pure rfl rfl rfl rfl (op_buildP pl41 z41 rfl rfl rfl rfl rfl) ?_
        refine TL_pure rfl rfl rfl rfl (op_buildP pl77 z77 rfl rfl rfl rfl rfl) ?_
        refine TL_store_box sz41 rfl rfl rfl rfl rfl rfl rfl rfl rfl ?_
        refine TL_store_box sz77 rfl rfl rfl rfl rfl rfl rfl rfl rfl ?_
        refine TL_pure rfl rfl rfl rfl (op_assign rfl) ?_
        refine TL_nil ?_
        refine T_ownNilBox 11 1 821 ⟨false, true⟩ 2 rfl rfl rfl (sz := 1) rfl rfl rfl rfl ?_
        refine T_keepH [2, 3, 4] [11, 12, 821] rfl rfl rfl rfl (by rw [hF]; rfl) ?_
        refine T_nilBox 12 (cs' := [.int .i64 (0 : Int), .sl 1 (List.map a_i64 ([] : List Int)), .sl 1 (List.map a_i64 ([] : List Int))]) rfl (⟨_, _, rfl, rfl, ⟨_, _, rfl, .inr ⟨_, rfl⟩, ⟨_, _, rfl, .inr ⟨_, rfl⟩, rfl⟩⟩⟩) rfl ?_
        refine T_ren [(11, 11), (12, 12), (821, 1000)] rfl rfl rfl (by rw [hF]; rfl) ?_
        refine T_ret ?_
        obtain rfl := someI hm
        refine ⟨[_, _, _], [1000], ⟨⟨_, _, rfl, rfl, .inr ⟨ag41, _, _, sz41, rfl, rfl⟩⟩, ⟨_, _, rfl, rfl, .inr ⟨ag77, _, _, sz77, rfl, rfl⟩⟩, rfl, trivial⟩, ?_, rfl, rfl, rfl, rfl⟩
        rfl
      · unfold m_impl_firstCut_A0 at hm
        obtain rfl := someI hm
        refine ⟨[_, _, _], [1000], ⟨⟨_, _, rfl, rfl, .inr ⟨ag41, _, _, sz41, rfl, rfl⟩⟩, ⟨_, _, rfl, rfl, .inr ⟨ag77, _, _, sz77, rfl, rfl⟩⟩, rfl, trivial⟩, ?_, rfl, rfl, rfl, rfl⟩
        rfl
    · refine T_seq ?_
      refine T_region ?_
      refine TL_pure rfl rfl rfl rfl (op_lss rfl rfl) ?_
      refine TL_nil ?_
      refine T_seq ?_
      refine T_if_false rfl (decide_eq_false (by simp)) ?_
      refine T_keepH [2, 3] [11, 12] rfl rfl rfl rfl (by rw [hF]; rfl) ?_
      refine T_exit ?_
      exact hx0 (.inl ()) hm
    · unfold m_impl_firstCut_L0 at hm
      refine T_seq ?_
      refine T_region ?_
      refine TL_pure rfl rfl rfl rfl (op_lss rfl rfl) ?_
      refine TL_nil ?_
      refine T_seq ?_
      refine T_if_true rfl (decide_eq_true (Int.ofNat_lt.2 hlt0)) ?_
      refine T_skip ?_
      refine T_seq ?_
      refine T_block ?_
      refine T_seq ?_
      refine T_region ?_
      refine TL_pure rfl rfl rfl rfl (op_index_sl el71 rfl rfl rfl (get_map hxn0) rfl) ?_
      refine TL_pure rfl rfl rfl rfl (op_load_agg ag77 sz77 rfl rfl rfl) ?_
      refine TL_alloc 418 z77 rfl rfl rfl rfl rfl rfl rfl ?_
      refine TL_store_box sz77 rfl rfl rfl rfl rfl rfl rfl rfl rfl ?_
      refine TL_nil ?_
      refine T_seq ?_
      refine T_region ?_
      refine TL_pure rfl rfl rfl rfl (op_fieldAddr fa77_0 rfl rfl) ?_
      refine TL_pure rfl rfl rfl rfl (op_load_agg ag41 sz41 rfl rfl rfl) ?_
      refine TL_pure rfl rfl rfl rfl (op_move rfl) ?_
      obtain ⟨r33, hr33, hm⟩ := bindS hm
      refine TL_callO [(1000, 419)] (ACall.F (F := F) (c_impl_cuts x0.term p0 r33 hr33)) Try.call109 rfl rfl rfl rfl rfl rfl rfl rfl rfl rfl rfl rfl rfl ?_
      refine TL_pure rfl rfl rfl rfl (op_move rfl) ?_
      refine TL_pure rfl rfl rfl rfl (op_extract rfl rfl) ?_
      refine TL_pure rfl rfl rfl rfl (op_extract rfl rfl) ?_
      refine TL_alloc 420 z41 rfl rfl rfl rfl rfl rfl rfl ?_
      refine TL_store_box sz41 rfl rfl rfl rfl rfl rfl rfl rfl rfl ?_
      refine TL_pure rfl rfl rfl rfl (op_assign rfl) ?_
      refine TL_nil ?_
      refine T_seq ?_
      refine T_region ?_
      refine TL_pure rfl rfl rfl rfl (op_move rfl) ?_
      refine TL_nil ?_
      refine T_cond rfl (fun hq => ?_) (fun hq => ?_)
      · replace hm := condT hq hm
        refine T_seq ?_
        refine T_drawZ [2, 3] mix (by kernel_rfl) rfl ?_
        refine TZ_pure 0 (by kernel_rfl) rfl rfl rfl rfl rfl (op_load_agg ag41 sz41 rfl rfl rfl) ?_
        refine TZ_cut 3 [true, true, false, false, false] ⟨[(0, .sl 2 (List.map a_Term p0)), (2, .ptr 11 0 0), (3, .ptr 12 0 0), (9, .ptr 418 0 0), (10, .ptr 420 0 0), (11, .bool r33.2), (23, .sl 3 (List.map a_combination r15.2.1)), (24, .int .i64 (r15.2.1.length : Int)), (25, .int .i64 (n0 : Int)), (26, .bool (decide ((n0 : Int) < (r15.2.1.length : Int)))), (27, .cp [.int .i64 x0.term.Const, .sl 1 (List.map a_i64 x0.term.Coeffs), .sl 1 (List.map a_i64 x0.by_)]), (28, .agg [.int .i64 x0.term.Const, .sl 1 (List.map a_i64 x0.term.Coeffs), .sl 1 (List.map a_i64 x0.by_)]), (29, .tup [.agg [.int .i64 r33.1.Const, .ow 419], .bool r33.2]), (30, .ptr 418 0 0), (31, .agg [.int .i64 x0.term.Const, .sl 1 (List.map a_i64 x0.term.Coeffs)]), (32, .sl 2 (List.map a_Term p0)), (33, .tup [.agg [.int .i64 r33.1.Const, .ow 419], .bool r33.2]), (34, .agg [.int .i64 r33.1.Const, .ow 419]), (35, .bool r33.2), (36, .bool r33.2), (37, .agg [.int .i64 r33.1.Const, .ow 419]), (38, .agg [.int .i64 x0.term.Const, .sl 1 (List.map a_i64 x0.term.Coeffs), .sl 1 (List.map a_i64 x0.by_)])], [(11, .box [.int .i64 (0 : Int), .snil]), (12, .box [.int .i64 (0 : Int), .snil, .snil]), (418, .box [.int .i64 x0.term.Const, .sl 1 (List.map a_i64 x0.term.Coeffs), .sl 1 (List.map a_i64 x0.by_)]), (419, .arr ⟨false, true⟩ 1 2 (List.map a_i64 r33.1.Coeffs)), (420, .box [.int .i64 r33.1.Const, .ow 419])]⟩ ?_ (fun hS420_0 => ?_)
        · refine TZ_one 2 (by kernel_rfl) rfl ?_
          refine TL_store_box sz41 rfl rfl rfl rfl rfl rfl rfl rfl rfl ?_
          refine TL_nil ?_
          refine TZ_one 3 (by kernel_rfl) rfl ?_
          refine TL_store_box sz77 rfl rfl rfl rfl rfl rfl rfl rfl rfl ?_
          refine TL_nil ?_
          refine TZ_pure 4 (by kernel_rfl) rfl rfl rfl rfl rfl (op_assign rfl) ?_
          refine TZ_done (by kernel_rfl) ?_
          refine T_keepH [2, 3, 4] [11, 12, 419] rfl rfl rfl rfl (by rw [hF]; rfl) ?_
          refine T_ren [(11, 11), (12, 12), (419, 1000)] rfl rfl rfl (by rw [hF]; rfl) ?_
          refine T_ret ?_
          obtain rfl := someI hm
          have hn := CtlOK_out hc0
          exact hx0 (.inr (r33.1.Const, r33.1.Coeffs, x0.term.Const, x0.term.Coeffs, x0.by_, true)) hn
        refine TZ_cut 3 [true, false, true, false, false] ⟨[(0, .sl 2 (List.map a_Term p0)), (2, .ptr 11 0 0), (3, .ptr 12 0 0), (9, .ptr 418 0 0), (10, .ptr 420 0 0), (11, .bool r33.2), (23, .sl 3 (List.map a_combination r15.2.1)), (24, .int .i64 (r15.2.1.length : Int)), (25, .int .i64 (n0 : Int)), (26, .bool (decide ((n0 : Int) < (r15.2.1.length : Int)))), (27, .cp [.int .i64 x0.term.Const, .sl 1 (List.map a_i64 x0.term.Coeffs), .sl 1 (List.map a_i64 x0.by_)]), (28, .agg [.int .i64 x0.term.Const, .sl 1 (List.map a_i64 x0.term.Coeffs), .sl 1 (List.map a_i64 x0.by_)]), (29, .tup [.agg [.int .i64 r33.1.Const, .ow 419], .bool r33.2]), (30, .ptr 418 0 0), (31, .agg [.int .i64 x0.term.Const, .sl 1 (List.map a_i64 x0.term.Coeffs)]), (32, .sl 2 (List.map a_Term p0)), (33, .tup [.agg [.int .i64 r33.1.Const, .ow 419], .bool r33.2]), (34, .agg [.int .i64 r33.1.Const, .ow 419]), (35, .bool r33.2), (36, .bool r33.2), (37, .agg [.int .i64 r33.1.Const, .ow 419])], [(11, .box [.int .i64 r33.1.Const, .ow 419]), (12, .box [.int .i64 (0 : Int), .snil, .snil]), (418, .box [.int .i64 x0.term.Const, .sl 1 (List.map a_i64 x0.term.Coeffs), .sl 1 (List.map a_i64 x0.by_)]), (419, .arr ⟨false, true⟩ 1 2 (List.map a_i64 r33.1.Coeffs)), (420, .box [.int .i64 r33.1.Const, .ow 419])]⟩ ?_ (fun hS420_1 => ?_)
        · refine TZ_pure 1 (by kernel_rfl) rfl rfl rfl rfl rfl (op_load_agg ag77 sz77 rfl rfl rfl) ?_
          refine TZ_one 3 (by kernel_rfl) rfl ?_
          refine TL_store_box sz77 rfl rfl rfl rfl rfl rfl rfl rfl rfl ?_
          refine TL_nil ?_
          refine TZ_pure 4 (by kernel_rfl) rfl rfl rfl rfl rfl (op_assign rfl) ?_
          refine TZ_done (by kernel_rfl) ?_
          refine T_keepH [2, 3, 4] [11, 12, 419] rfl rfl rfl rfl (by rw [hF]; rfl) ?_
          refine T_ren [(11, 11), (12, 12), (419, 1000)] rfl rfl rfl (by rw [hF]; rfl) ?_
          refine T_ret ?_
          obtain rfl := someI hm
          have hn := CtlOK_out hc0
          exact hx0 (.inr (r33.1.Const, r33.1.Coeffs, x0.term.Const, x0.term.Coeffs, x0.by_, true)) hn
        refine TZ_each [1, 2] (by kernel_rfl) rfl ?_
        refine ⟨?_, ?_⟩
        · refine ⟨_, rfl, ?_⟩
          refine TL_pure rfl rfl rfl rfl (op_load_agg ag77 sz77 rfl rfl rfl) ?_
          refine TL_nil ?_
          refine TZ_keepH [0, 2, 3, 9, 10, 11, 23, 24, 25, 26, 27, 28, 29, 30, 31, 32, 33, 34, 35, 36, 37, 38] [11, 12, 418, 419, 420] rfl rfl rfl rfl (by rw [hF]; rfl) ?_
          exact hS420_0
        · refine ⟨_, rfl, ?_⟩
          refine TL_store_box sz41 rfl rfl rfl rfl rfl rfl rfl rfl rfl ?_
          refine TL_nil ?_
          refine TZ_keepH [0, 2, 3, 9, 10, 11, 23, 24, 25, 26, 27, 28, 29, 30, 31, 32, 33, 34, 35, 36, 37] [11, 12, 418, 419, 420] rfl rfl rfl rfl (by rw [hF]; rfl) ?_
          exact hS420_1
      · replace hm := condF hq hm
        refine T_skip ?_
        refine T_region ?_
        refine TL_pure rfl rfl rfl rfl (op_addN rfl rfl (Nat.lt_of_lt_of_le hlt0 hlen24)) ?_
        refine TL_pure rfl rfl rfl rfl (op_move rfl) ?_
        refine TL_nil ?_
        refine TR_keepH [0, 2, 3, 23, 24, 25] [11, 12] rfl rfl rfl rfl (by rw [hF]; rfl) ?_
        obtain rfl := someI hm
        have hn := CtlOK_next hc0
        exact hn _ rfl
end Go.Mod
