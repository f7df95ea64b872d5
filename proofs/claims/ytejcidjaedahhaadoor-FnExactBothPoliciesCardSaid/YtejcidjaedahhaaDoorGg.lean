import Derived.Test.YtejcidjaedahhaaDoorGf
namespace Go.Mod
open Go Go.AM Go.Proofs
set_option linter.unusedVariables false
set_option linter.unusedSimpArgs false
set_option maxRecDepth 100000
set_option maxHeartbeats 8000000
theorem c_laws_FnExactBothPolicies (p0 : Policy) (p1 : Policy) (out : Bool) (hm : m_laws_FnExactBothPolicies p0 p1 = some out) : ACallG gl Tryd.prog 5 [.agg [.sl 1 (List.map aLa_i64 p0.Next)], .agg [.sl 1 (List.map aLa_i64 p1.Next)]] [] (.bool out) [] := by
  refine ACallG.intro (g := gl) Tryd.func5 rfl Tryd.ntmps5 rfl (fun F hF hI hg => ?_)
  unfold m_laws_FnExactBothPolicies at hm
  refine T_seq ?_
  refine T_region ?_
  refine TL_box 11 rfl rfl rfl rfl rfl rfl rfl ?_
  refine TL_box 12 rfl rfl rfl rfl rfl rfl rfl ?_
  refine TL_pure rfl rfl rfl rfl (op_assign rfl) ?_
  refine TL_nil ?_
  refine T_seq ?_
  refine T_region ?_
  refine TL_pure rfl rfl rfl rfl (op_assign rfl) ?_
  refine TL_nil ?_
  refine T_seq ?_
  refine T_region ?_
  refine TL_pure rfl rfl rfl rfl (op_load_agg ag38 sz38 rfl rfl rfl) ?_
  refine TL_pure rfl rfl rfl rfl (op_move rfl) ?_
  obtain ⟨r19, hr19, hm⟩ := bindS hm
  refine TL_callF (ACall.F (F := F) (c_laws_szPolicy p0 (1048576 : Int) r19 hr19)) Tryd.call16 rfl rfl rfl rfl rfl ?_
  refine TL_pure rfl rfl rfl rfl (op_assign rfl) ?_
  refine TL_nil ?_
  refine T_seq ?_
  refine T_seq ?_
  refine T_region ?_
  refine TL_pure rfl rfl rfl rfl (op_move rfl) ?_
  refine TL_pure rfl rfl rfl rfl (op_lss rfl rfl) ?_
  refine TL_nil ?_
  refine T_cond rfl (fun hq => ?_) (fun hq => ?_)
  · replace hm := condT hq hm
    refine T_seq ?_
    refine T_region ?_
    refine TL_pure rfl rfl rfl rfl (op_assign rfl) ?_
    refine TL_nil ?_
    refine T_keepH [4] [] rfl rfl rfl rfl (by rw [hF]; rfl) ?_
    refine T_ret ?_
    obtain rfl := someI hm
    refine ⟨[_], [], ⟨rfl, trivial⟩, ?_, rfl, rfl, rfl, rfl⟩
    rfl
  · replace hm := condF hq hm
    refine T_skip ?_
    refine T_seq ?_
    refine T_region ?_
    refine TL_pure rfl rfl rfl rfl (op_load_agg ag38 sz38 rfl rfl rfl) ?_
    refine TL_pure rfl rfl rfl rfl (op_move rfl) ?_
    obtain ⟨r24, hr24, hm⟩ := bindS hm
    refine TL_callF (ACall.F (F := F) (c_laws_szPolicy p1 r19 r24 hr24)) Tryd.call16 rfl rfl rfl rfl rfl ?_
    refine TL_pure rfl rfl rfl rfl (op_assign rfl) ?_
    refine TL_nil ?_
    refine T_seq ?_
    refine T_seq ?_
    refine T_region ?_
    refine TL_pure rfl rfl rfl rfl (op_move rfl) ?_
    refine TL_pure rfl rfl rfl rfl (op_lss rfl rfl) ?_
    refine TL_nil ?_
    refine T_cond rfl (fun hq => ?_) (fun hq => ?_)
    · replace hm := condT hq hm
      refine T_seq ?_
      refine T_region ?_
      refine TL_pure rfl rfl rfl rfl (op_assign rfl) ?_
      refine TL_nil ?_
      refine T_keepH [4] [] rfl rfl rfl rfl (by rw [hF]; rfl) ?_
      refine T_ret ?_
      obtain rfl := someI hm
      refine ⟨[_], [], ⟨rfl, trivial⟩, ?_, rfl, rfl, rfl, rfl⟩
      rfl
    · replace hm := condF hq hm
      refine T_skip ?_
      refine T_join (fun (j0 : (List (List Int)) × Bool) => ⟨[(2, .ptr 11 0 0), (3, .ptr 12 0 0), (6, .ptr 733 0 0), (7, .bool j0.2)], [(11, .box [.sl 1 (List.map aLa_i64 p0.Next)]), (12, .box [.sl 1 (List.map aLa_i64 p1.Next)]), (413, .arr ⟨false, true⟩ 1 29 (List.map aLa_i64 j0.1)), (733, .box [.ow 413])]⟩) (fun j0 => m_laws_FnExactBothPolicies_J0 p0 p1 j0 = some out) (fun j0 hm => ?_) (fun hj0 => ?_)
      · unfold m_laws_FnExactBothPolicies_J0 at hm
        refine T_seq ?_
        refine T_region ?_
        refine TL_pure rfl rfl rfl rfl (op_load_agg ag38 sz38 rfl rfl rfl) ?_
        obtain ⟨r36, hr36, hm⟩ := bindS hm
        refine TL_callO [(1000, 893)] (ACall.F (F := F) (c_laws_toPolicy p0 r36 hr36)) Tryd.call18 rfl rfl rfl rfl rfl rfl rfl rfl rfl rfl rfl rfl rfl ?_
        refine TL_alloc 894 z26 rfl rfl rfl rfl rfl rfl rfl ?_
        refine TL_store_box sz26 rfl rfl rfl rfl rfl rfl rfl rfl rfl ?_
        refine TL_nil ?_
        refine T_seq ?_
        refine T_region ?_
        refine TL_pure rfl rfl rfl rfl (op_load_agg ag38 sz38 rfl rfl rfl) ?_
        obtain ⟨r38, hr38, hm⟩ := bindS hm
        refine TL_callO [(1000, 895)] (ACall.F (F := F) (c_laws_toPolicy p1 r38 hr38)) Tryd.call18 rfl rfl rfl rfl rfl rfl rfl rfl rfl rfl rfl rfl rfl ?_
        refine TL_alloc 896 z26 rfl rfl rfl rfl rfl rfl rfl ?_
        refine TL_store_box sz26 rfl rfl rfl rfl rfl rfl rfl rfl rfl ?_
        refine TL_nil ?_
        refine T_seq ?_
        refine T_region ?_
        refine TL_pure rfl rfl rfl rfl (op_load_agg ag26 sz26 rfl rfl rfl) ?_
        refine TL_pure rfl rfl rfl rfl (op_load_agg ag26 sz26 rfl rfl rfl) ?_
        obtain ⟨r42, hr42, hm⟩ := bindS hm
        refine TL_callO [(1000, 897)] (ACallG.F hI hg (c_impl_BothPolicies r36 r38 r42 hr42)) Tryd.call13 rfl rfl rfl rfl rfl rfl rfl rfl rfl rfl rfl rfl rfl ?_
        refine TL_pure rfl rfl rfl rfl (op_move rfl) ?_
        refine TL_pure rfl rfl rfl rfl (op_extract rfl rfl) ?_
        refine TL_pure rfl rfl rfl rfl (op_extract rfl rfl) ?_
        refine TL_alloc 898 z26 rfl rfl rfl rfl rfl rfl rfl ?_
        refine TL_store_box sz26 rfl rfl rfl rfl rfl rfl rfl rfl rfl ?_
        refine TL_pure rfl rfl rfl rfl (op_assign rfl) ?_
        refine TL_nil ?_
        refine T_seq ?_
        refine T_seq ?_
        refine T_region ?_
        refine TL_pure rfl rfl rfl rfl (op_load_agg ag26 sz26 rfl rfl rfl) ?_
        refine TL_pure rfl rfl rfl rfl (op_load_agg ag26 sz26 rfl rfl rfl) ?_
        obtain ⟨r47, hr47, hm⟩ := bindS hm
        refine TL_callF (ACall.F (F := F) (c_laws_eqPolicy r42.1 (Policy.mk j0.1) r47 hr47)) Tryd.call20 rfl rfl rfl rfl rfl ?_
        refine TL_pure rfl rfl rfl rfl (op_not rfl) ?_
        refine TL_pure rfl rfl rfl rfl (op_move rfl) ?_
        refine TL_join 4 (fun _ : Unit => ⟨[(2, .ptr 11 0 0), (3, .ptr 12 0 0), (6, .ptr 733 0 0), (7, .bool j0.2), (8, .ptr 894 0 0), (9, .ptr 896 0 0), (10, .ptr 898 0 0), (11, .bool r42.2), (53, .bool ((!r47) || (!(r42.2 == j0.2))))], [(11, .box [.sl 1 (List.map aLa_i64 p0.Next)]), (12, .box [.sl 1 (List.map aLa_i64 p1.Next)]), (413, .arr ⟨false, true⟩ 1 29 (List.map aLa_i64 j0.1)), (733, .box [.ow 413]), (893, .arr ⟨false, true⟩ 1 29 (List.map aLa_i64 r36.Next)), (894, .box [.ow 893]), (895, .arr ⟨false, true⟩ 1 29 (List.map aLa_i64 r38.Next)), (896, .box [.ow 895]), (897, .arr ⟨false, true⟩ 1 29 (List.map aLa_i64 r42.1.Next)), (898, .box [.ow 897])]⟩) (fun _ => True) (fun _ _ => ?_) (fun hjj => ?_)
        · refine TL_nil ?_
          refine T_cond rfl (fun hq => ?_) (fun hq => ?_)
          · replace hm := condT hq hm
            refine T_seq ?_
            refine T_region ?_
            refine TL_pure rfl rfl rfl rfl (op_assign rfl) ?_
            refine TL_nil ?_
            refine T_keepH [4] [] rfl rfl rfl rfl (by rw [hF]; rfl) ?_
            refine T_ret ?_
            obtain rfl := someI hm
            refine ⟨[_], [], ⟨rfl, trivial⟩, ?_, rfl, rfl, rfl, rfl⟩
            rfl
          · replace hm := condF hq hm
            refine T_skip ?_
            refine T_seq ?_
            refine T_seq ?_
            refine T_drawZ [] mix (by kernel_rfl) rfl ?_
            obtain ⟨r56, hr56, hm⟩ := bindS hm
            obtain ⟨r57, hr57, hm⟩ := bindS hm
            refine TZ_pure 0 (by kernel_rfl) rfl rfl rfl rfl rfl (op_load_agg ag26 sz26 rfl rfl rfl) ?_
            refine TZ_pure 1 (by kernel_rfl) rfl rfl rfl rfl rfl (op_load_agg ag38 sz38 rfl rfl rfl) ?_
            refine TZ_one 2 (by kernel_rfl) rfl ?_
            refine TL_callO [(1000, 902)] (ACall.F (F := F) (c_laws_toPolicy p0 r56 hr56)) Tryd.call18 rfl rfl rfl rfl rfl rfl rfl rfl rfl rfl rfl rfl rfl ?_
            refine TL_nil ?_
            refine TZ_one 3 (by kernel_rfl) rfl ?_
            refine TL_callF (ACall.F (F := F) (c_laws_eqPolicy r36 r56 r57 hr57)) Tryd.call20 rfl rfl rfl rfl rfl ?_
            refine TL_nil ?_
            refine TZ_pure 4 (by kernel_rfl) rfl rfl rfl rfl rfl (op_not rfl) ?_
            refine TZ_done (by kernel_rfl) ?_
            refine T_cond rfl (fun hq => ?_) (fun hq => ?_)
            · replace hm := condT hq hm
              refine T_seq ?_
              refine T_region ?_
              refine TL_pure rfl rfl rfl rfl (op_assign rfl) ?_
              refine TL_nil ?_
              refine T_keepH [4] [] rfl rfl rfl rfl (by rw [hF]; rfl) ?_
              refine T_ret ?_
              obtain rfl := someI hm
              refine ⟨[_], [], ⟨rfl, trivial⟩, ?_, rfl, rfl, rfl, rfl⟩
              rfl
            · replace hm := condF hq hm
              refine T_skip ?_
              refine T_seq ?_
              refine T_seq ?_
              refine T_drawZ [] mix (by kernel_rfl) rfl ?_
              obtain ⟨r61, hr61, hm⟩ := bindS hm
              obtain ⟨r62, hr62, hm⟩ := bindS hm
              refine TZ_pure 0 (by kernel_rfl) rfl rfl rfl rfl rfl (op_load_agg ag26 sz26 rfl rfl rfl) ?_
              refine TZ_pure 1 (by kernel_rfl) rfl rfl rfl rfl rfl (op_load_agg ag38 sz38 rfl rfl rfl) ?_
              refine TZ_one 2 (by kernel_rfl) rfl ?_
              refine TL_callO [(1000, 906)] (ACall.F (F := F) (c_laws_toPolicy p1 r61 hr61)) Tryd.call18 rfl rfl rfl rfl rfl rfl rfl rfl rfl rfl rfl rfl rfl ?_
              refine TL_nil ?_
              refine TZ_one 3 (by kernel_rfl) rfl ?_
              refine TL_callF (ACall.F (F := F) (c_laws_eqPolicy r38 r61 r62 hr62)) Tryd.call20 rfl rfl rfl rfl rfl ?_
              refine TL_nil ?_
              refine TZ_pure 4 (by kernel_rfl) rfl rfl rfl rfl rfl (op_not rfl) ?_
              refine TZ_done (by kernel_rfl) ?_
              refine T_cond rfl (fun hq => ?_) (fun hq => ?_)
              · replace hm := condT hq hm
                refine T_seq ?_
                refine T_region ?_
                refine TL_pure rfl rfl rfl rfl (op_assign rfl) ?_
                refine TL_nil ?_
                refine T_keepH [4] [] rfl rfl rfl rfl (by rw [hF]; rfl) ?_
                refine T_ret ?_
                obtain rfl := someI hm
                refine ⟨[_], [], ⟨rfl, trivial⟩, ?_, rfl, rfl, rfl, rfl⟩
                rfl
              · replace hm := condF hq hm
                refine T_skip ?_
                refine T_seq ?_
                refine T_region ?_
                refine TL_pure rfl rfl rfl rfl (op_assign rfl) ?_
                refine TL_nil ?_
                refine T_seq ?_
                refine T_region ?_
                refine TL_pure rfl rfl rfl rfl (op_load_agg ag26 sz26 rfl rfl rfl) ?_
                refine TL_pure rfl rfl rfl rfl (op_move rfl) ?_
                refine TL_pin 893 (k' := ⟨true, true⟩) (by rw [hF]; rfl) rfl rfl rfl ?_
                obtain ⟨r66, hr66, hm⟩ := bindS hm
                refine TL_call [(0, 893)] [] [] (ACall.F (F := F) (c_laws_markPolicy r36 (1 : Int) r66 hr66 _)) Tryd.call21 rfl rfl rfl rfl rfl ⟨rfl, trivial⟩ rfl rfl rfl rfl rfl rfl rfl rfl rfl rfl rfl ?_
                refine TL_pure rfl rfl rfl rfl (op_assign rfl) ?_
                refine TL_nil ?_
                refine T_seq ?_
                refine T_region ?_
                refine TL_pure rfl rfl rfl rfl (op_load_agg ag26 sz26 rfl rfl rfl) ?_
                refine TL_pure rfl rfl rfl rfl (op_move rfl) ?_
                refine TL_pin 895 (k' := ⟨true, true⟩) (by rw [hF]; rfl) rfl rfl rfl ?_
                obtain ⟨r69, hr69, hm⟩ := bindS hm
                refine TL_call [(0, 895)] [] [] (ACall.F (F := F) (c_laws_markPolicy r38 r66.1 r69 hr69 _)) Tryd.call21 rfl rfl rfl rfl rfl ⟨rfl, trivial⟩ rfl rfl rfl rfl rfl rfl rfl rfl rfl rfl rfl ?_
                refine TL_pure rfl rfl rfl rfl (op_assign rfl) ?_
                refine TL_nil ?_
                refine T_seq ?_
                refine T_seq ?_
                refine T_region ?_
                refine TL_pure rfl rfl rfl rfl (op_move rfl) ?_
                refine TL_pure rfl rfl rfl rfl (op_lss rfl rfl) ?_
                refine TL_pure rfl rfl rfl rfl (op_move rfl) ?_
                refine TL_split 72 rfl rfl rfl (fun hq => ?_) (fun hq => ?_)
                · replace hm := condT hq hm
                  refine TL_pass rfl rfl rfl rfl rfl rfl rfl ?_
                  refine TL_pass rfl rfl rfl rfl rfl rfl rfl ?_
                  refine TL_pass rfl rfl rfl rfl rfl rfl rfl ?_
                  refine TL_pass rfl rfl rfl rfl rfl rfl rfl ?_
                  refine TL_pure rfl rfl rfl rfl (op_pick_true rfl rfl) ?_
                  refine TL_pure rfl rfl rfl rfl (op_move rfl) ?_
                  refine TL_pass rfl rfl rfl rfl rfl rfl rfl ?_
                  refine TL_pass rfl rfl rfl rfl rfl rfl rfl ?_
                  refine TL_pass rfl rfl rfl rfl rfl rfl rfl ?_
                  refine TL_pure rfl rfl rfl rfl (op_pick_true rfl rfl) ?_
                  refine TL_nil ?_
                  refine T_cond_true rfl ?_
                  refine T_seq ?_
                  refine T_region ?_
                  refine TL_pure rfl rfl rfl rfl (op_assign rfl) ?_
                  refine TL_nil ?_
                  refine T_keepH [4] [] rfl rfl rfl rfl (by rw [hF]; rfl) ?_
                  refine T_ret ?_
                  obtain rfl := someI hm
                  refine ⟨[_], [], ⟨rfl, trivial⟩, ?_, rfl, rfl, rfl, rfl⟩
                  rfl
                · replace hm := condF hq hm
                  refine TL_want rfl rfl ?_
                  refine TL_pure rfl rfl rfl rfl (op_load_agg ag26 sz26 rfl rfl rfl) ?_
                  refine TL_want rfl rfl ?_
                  refine TL_pure rfl rfl rfl rfl (op_load_agg ag26 sz26 rfl rfl rfl) ?_
                  refine TL_want rfl rfl ?_
                  obtain ⟨r75, hr75, hm⟩ := bindS hm
                  refine TL_callF (ACall.F (F := F) (c_laws_eqPolicy r42.1 (Policy.mk j0.1) r75 hr75)) Tryd.call20 rfl rfl rfl rfl rfl ?_
                  refine TL_want rfl rfl ?_
                  refine TL_pure rfl rfl rfl rfl (op_not rfl) ?_
                  refine TL_pure rfl rfl rfl rfl (op_pick_false rfl rfl) ?_
                  refine TL_pure rfl rfl rfl rfl (op_move rfl) ?_
                  refine TL_join 4 (fun _ : Unit => ⟨[(2, .ptr 11 0 0), (3, .ptr 12 0 0), (6, .ptr 733 0 0), (7, .bool j0.2), (10, .ptr 898 0 0), (82, .bool ((!r75) || (!(r42.2 == j0.2))))], [(11, .box [.sl 1 (List.map aLa_i64 p0.Next)]), (12, .box [.sl 1 (List.map aLa_i64 p1.Next)]), (413, .arr ⟨false, true⟩ 1 29 (List.map aLa_i64 j0.1)), (733, .box [.ow 413]), (897, .arr ⟨false, true⟩ 1 29 (List.map aLa_i64 r42.1.Next)), (898, .box [.ow 897])]⟩) (fun _ => True) (fun _ _ => ?_) (fun hjj => ?_)
                  · refine TL_nil ?_
                    refine T_cond rfl (fun hq => ?_) (fun hq => ?_)
                    · replace hm := condT hq hm
                      refine T_seq ?_
                      refine T_region ?_
                      refine TL_pure rfl rfl rfl rfl (op_assign rfl) ?_
                      refine TL_nil ?_
                      refine T_keepH [4] [] rfl rfl rfl rfl (by rw [hF]; rfl) ?_
                      refine T_ret ?_
                      obtain rfl := someI hm
                      refine ⟨[_], [], ⟨rfl, trivial⟩, ?_, rfl, rfl, rfl, rfl⟩
                      rfl
                    · replace hm := condF hq hm
                      refine T_skip ?_
                      refine T_seq ?_
                      refine T_region ?_
                      refine TL_pure rfl rfl rfl rfl (op_assign rfl) ?_
                      refine TL_nil ?_
                      refine T_seq ?_
                      refine T_region ?_
                      refine TL_pure rfl rfl rfl rfl (op_load_agg ag26 sz26 rfl rfl rfl) ?_
                      refine TL_pure rfl rfl rfl rfl (op_move rfl) ?_
                      refine TL_pin 897 (k' := ⟨true, true⟩) (by rw [hF]; rfl) rfl rfl rfl ?_
                      obtain ⟨r85, hr85, hm⟩ := bindS hm
                      refine TL_call [(0, 897)] [] [] (ACall.F (F := F) (c_laws_markPolicy r42.1 (1 : Int) r85 hr85 _)) Tryd.call21 rfl rfl rfl rfl rfl ⟨rfl, trivial⟩ rfl rfl rfl rfl rfl rfl rfl rfl rfl rfl rfl ?_
                      refine TL_pure rfl rfl rfl rfl (op_assign rfl) ?_
                      refine TL_nil ?_
                      refine T_seq ?_
                      refine T_region ?_
                      refine TL_pure rfl rfl rfl rfl (op_assign rfl) ?_
                      refine TL_nil ?_
                      refine T_seq ?_
                      refine T_region ?_
                      refine TL_pure rfl rfl rfl rfl (op_load_agg ag26 sz26 rfl rfl rfl) ?_
                      refine TL_pure rfl rfl rfl rfl (op_move rfl) ?_
                      obtain ⟨r88, hr88, hm⟩ := bindS hm
                      refine TL_callF (ACall.F (F := F) (c_laws_heldPolicy (Policy.mk r85.2) (1 : Int) r88 hr88)) Tryd.call22 rfl rfl rfl rfl rfl ?_
                      refine TL_pure rfl rfl rfl rfl (op_assign rfl) ?_
                      refine TL_nil ?_
                      refine T_seq ?_
                      refine T_seq ?_
                      refine T_region ?_
                      refine TL_pure rfl rfl rfl rfl (op_move rfl) ?_
                      refine TL_pure rfl rfl rfl rfl (op_lss rfl rfl) ?_
                      refine TL_nil ?_
                      refine T_cond rfl (fun hq => ?_) (fun hq => ?_)
                      · replace hm := condT hq hm
                        refine T_seq ?_
                        refine T_region ?_
                        refine TL_pure rfl rfl rfl rfl (op_assign rfl) ?_
                        refine TL_nil ?_
                        refine T_keepH [4] [] rfl rfl rfl rfl (by rw [hF]; rfl) ?_
                        refine T_ret ?_
                        obtain rfl := someI hm
                        refine ⟨[_], [], ⟨rfl, trivial⟩, ?_, rfl, rfl, rfl, rfl⟩
                        rfl
                      · replace hm := condF hq hm
                        refine T_skip ?_
                        refine T_seq ?_
                        refine T_seq ?_
                        refine T_region ?_
                        refine TL_pure rfl rfl rfl rfl (op_move rfl) ?_
                        refine TL_pure rfl rfl rfl rfl (op_move rfl) ?_
                        refine TL_pure rfl rfl rfl rfl (op_neq rfl rfl) ?_
                        refine TL_nil ?_
                        refine T_cond rfl (fun hq => ?_) (fun hq => ?_)
                        · replace hm := condT hq hm
                          refine T_seq ?_
                          refine T_region ?_
                          refine TL_pure rfl rfl rfl rfl (op_assign rfl) ?_
                          refine TL_nil ?_
                          refine T_keepH [4] [] rfl rfl rfl rfl (by rw [hF]; rfl) ?_
                          refine T_ret ?_
                          obtain rfl := someI hm
                          refine ⟨[_], [], ⟨rfl, trivial⟩, ?_, rfl, rfl, rfl, rfl⟩
                          rfl
                        · replace hm := condF hq hm
                          refine T_skip ?_
                          refine T_join (fun (j1 : (List (List Int)) × Bool) => ⟨[(6, .ptr 733 0 0), (7, .bool j0.2), (10, .ptr 898 0 0), (13, .int .i64 r85.1), (15, .ptr 1627 0 0), (16, .bool j1.2)], [(413, .arr ⟨false, true⟩ 1 29 (List.map aLa_i64 j0.1)), (733, .box [.ow 413]), (897, .arr ⟨true, true⟩ 1 29 (List.map aLa_i64 r85.2)), (898, .box [.ow 897]), (1307, .arr ⟨false, true⟩ 1 29 (List.map aLa_i64 j1.1)), (1627, .box [.ow 1307])]⟩) (fun j1 => m_laws_FnExactBothPolicies_J1 j0 r85 j1 = some out) (fun j1 hm => ?_) (fun hj1 => ?_)
                          · unfold m_laws_FnExactBothPolicies_J1 at hm
                            refine T_seq ?_
                            refine T_seq ?_
                            refine T_region ?_
                            refine TL_pure rfl rfl rfl rfl (op_load_agg ag26 sz26 rfl rfl rfl) ?_
                            refine TL_pure rfl rfl rfl rfl (op_load_agg ag26 sz26 rfl rfl rfl) ?_
                            obtain ⟨r104, hr104, hm⟩ := bindS hm
                            refine TL_callF (ACall.F (F := F) (c_laws_eqPolicy (Policy.mk j1.1) (Policy.mk j0.1) r104 hr104)) Tryd.call20 rfl rfl rfl rfl rfl ?_
                            refine TL_pure rfl rfl rfl rfl (op_not rfl) ?_
                            refine TL_pure rfl rfl rfl rfl (op_move rfl) ?_
                            refine TL_join 4 (fun _ : Unit => ⟨[(10, .ptr 898 0 0), (13, .int .i64 r85.1), (110, .bool ((!r104) || (!(j1.2 == j0.2))))], [(897, .arr ⟨true, true⟩ 1 29 (List.map aLa_i64 r85.2)), (898, .box [.ow 897])]⟩) (fun _ => True) (fun _ _ => ?_) (fun hjj => ?_)
                            · refine TL_nil ?_
                              refine T_cond rfl (fun hq => ?_) (fun hq => ?_)
                              · replace hm := condT hq hm
                                refine T_seq ?_
                                refine T_region ?_
                                refine TL_pure rfl rfl rfl rfl (op_assign rfl) ?_
                                refine TL_nil ?_
                                refine T_keepH [4] [] rfl rfl rfl rfl (by rw [hF]; rfl) ?_
                                refine T_ret ?_
                                obtain rfl := someI hm
                                refine ⟨[_], [], ⟨rfl, trivial⟩, ?_, rfl, rfl, rfl, rfl⟩
                                rfl
                              · replace hm := condF hq hm
                                refine T_skip ?_
                                refine T_seq ?_
                                refine T_region ?_
                                refine TL_pure rfl rfl rfl rfl (op_assign rfl) ?_
                                refine TL_nil ?_
                                refine T_seq ?_
                                refine T_region ?_
                                refine TL_pure rfl rfl rfl rfl (op_load_agg ag26 sz26 rfl rfl rfl) ?_
                                refine TL_pure rfl rfl rfl rfl (op_move rfl) ?_
                                obtain ⟨r113, hr113, hm⟩ := bindS hm
                                refine TL_callF (ACall.F (F := F) (c_laws_heldPolicy (Policy.mk r85.2) (1 : Int) r113 hr113)) Tryd.call22 rfl rfl rfl rfl rfl ?_
                                refine TL_pure rfl rfl rfl rfl (op_assign rfl) ?_
                                refine TL_nil ?_
                                refine T_seq ?_
                                refine T_seq ?_
                                refine T_region ?_
                                refine TL_pure rfl rfl rfl rfl (op_move rfl) ?_
                                refine TL_pure rfl rfl rfl rfl (op_lss rfl rfl) ?_
                                refine TL_nil ?_
                                refine T_cond rfl (fun hq => ?_) (fun hq => ?_)
                                · replace hm := condT hq hm
                                  refine T_seq ?_
                                  refine T_region ?_
                                  refine TL_pure rfl rfl rfl rfl (op_assign rfl) ?_
                                  refine TL_nil ?_
                                  refine T_keepH [4] [] rfl rfl rfl rfl (by rw [hF]; rfl) ?_
                                  refine T_ret ?_
                                  obtain rfl := someI hm
                                  refine ⟨[_], [], ⟨rfl, trivial⟩, ?_, rfl, rfl, rfl, rfl⟩
                                  rfl
                                · replace hm := condF hq hm
                                  refine T_skip ?_
                                  refine T_seq ?_
                                  refine T_seq ?_
                                  refine T_region ?_
                                  refine TL_pure rfl rfl rfl rfl (op_move rfl) ?_
                                  refine TL_pure rfl rfl rfl rfl (op_move rfl) ?_
                                  refine TL_pure rfl rfl rfl rfl (op_neq rfl rfl) ?_
                                  refine TL_nil ?_
                                  refine T_cond rfl (fun hq => ?_) (fun hq => ?_)
                                  · replace hm := condT hq hm
                                    refine T_seq ?_
                                    refine T_region ?_
                                    refine TL_pure rfl rfl rfl rfl (op_assign rfl) ?_
                                    refine TL_nil ?_
                                    refine T_keepH [4] [] rfl rfl rfl rfl (by rw [hF]; rfl) ?_
                                    refine T_ret ?_
                                    obtain rfl := someI hm
                                    refine ⟨[_], [], ⟨rfl, trivial⟩, ?_, rfl, rfl, rfl, rfl⟩
                                    rfl
                                  · replace hm := condF hq hm
                                    refine T_skip ?_
                                    refine T_seq ?_
                                    refine T_region ?_
                                    refine TL_pure rfl rfl rfl rfl (op_assign rfl) ?_
                                    refine TL_nil ?_
                                    refine T_keepH [4] [] rfl rfl rfl rfl (by rw [hF]; rfl) ?_
                                    refine T_ret ?_
                                    obtain rfl := someI hm
                                    refine ⟨[_], [], ⟨rfl, trivial⟩, ?_, rfl, rfl, rfl, rfl⟩
                                    rfl
                            · refine TL_split 106 rfl rfl rfl (fun hq => ?_) (fun hq => ?_)
                              · refine TL_pass rfl rfl rfl rfl rfl rfl rfl ?_
                                refine TL_pass rfl rfl rfl rfl rfl rfl rfl ?_
                                refine TL_pass rfl rfl rfl rfl rfl rfl rfl ?_
                                refine TL_pure rfl rfl rfl rfl (op_pick_true rfl rfl) ?_
                                refine TL_keepH [10, 13, 110] [897, 898] rfl rfl rfl rfl (by rw [hF]; rfl) ?_
                                exact TL_cast _ (by first | (rw [hq, Bool.true_or]; done) | (rw [hq]; rfl)) (hjj () trivial)
                              · refine TL_want rfl rfl ?_
                                refine TL_pure rfl rfl rfl rfl (op_move rfl) ?_
                                refine TL_want rfl rfl ?_
                                refine TL_pure rfl rfl rfl rfl (op_move rfl) ?_
                                refine TL_want rfl rfl ?_
                                refine TL_pure rfl rfl rfl rfl (op_neqB Tryd.underlying4 rfl rfl) ?_
                                refine TL_pure rfl rfl rfl rfl (op_pick_false rfl rfl) ?_
                                refine TL_keepH [10, 13, 110] [897, 898] rfl rfl rfl rfl (by rw [hF]; rfl) ?_
                                exact TL_cast _ (by first | (rw [hq, Bool.false_or]; done) | (rw [hq]; rfl)) (hjj () trivial)
                          · refine T_drawZ [9] mix (by kernel_rfl) rfl ?_
                            obtain ⟨r96, hr96, hm⟩ := bindS hm
                            obtain ⟨r98, hr98, hm⟩ := bindS hm
                            obtain ⟨r99, hr99, hm⟩ := bindS hm
                            refine TZ_pure 0 (by kernel_rfl) rfl rfl rfl rfl rfl (op_load_agg ag38 sz38 rfl rfl rfl) ?_
                            refine TZ_pure 2 (by kernel_rfl) rfl rfl rfl rfl rfl (op_load_agg ag38 sz38 rfl rfl rfl) ?_
                            refine TZ_cut 6 [true, true, true, true, true, false, false, false, false, false, false] ⟨[(2, .ptr 11 0 0), (3, .ptr 12 0 0), (6, .ptr 733 0 0), (7, .bool j0.2), (10, .ptr 898 0 0), (13, .int .i64 r85.1), (14, .int .i64 r88), (82, .bool ((!r75) || (!(r42.2 == j0.2)))), (83, .agg [.ow 897]), (84, .int .i64 (1 : Int)), (85, .int .i64 r85.1), (86, .agg [.ow 897]), (87, .int .i64 (1 : Int)), (88, .int .i64 r88), (89, .int .i64 r88), (90, .bool (decide (r88 < (0 : Int)))), (91, .int .i64 r88), (92, .int .i64 r85.1), (93, .bool (!decide (r88 = r85.1))), (95, .agg [.sl 1 (List.map aLa_i64 p0.Next)]), (96, .agg [.ow 1947]), (97, .agg [.sl 1 (List.map aLa_i64 p1.Next)]), (98, .agg [.ow 2107]), (99, .tup [.agg [.ow 2187], .bool r99.2])], [(11, .box [.sl 1 (List.map aLa_i64 p0.Next)]), (12, .box [.sl 1 (List.map aLa_i64 p1.Next)]), (413, .arr ⟨false, true⟩ 1 29 (List.map aLa_i64 j0.1)), (733, .box [.ow 413]), (897, .arr ⟨true, true⟩ 1 29 (List.map aLa_i64 r85.2)), (898, .box [.ow 897]), (1947, .arr ⟨false, true⟩ 1 29 (List.map aLa_i64 r96.Next)), (2107, .arr ⟨false, true⟩ 1 29 (List.map aLa_i64 r98.Next)), (2187, .arr ⟨false, true⟩ 1 29 (List.map aLa_i64 r99.1.Next))]⟩ ?_ (fun hS1786_0 => ?_)
                            · refine TZ_pure 5 (by kernel_rfl) rfl rfl rfl rfl rfl (op_move rfl) ?_
                              refine TZ_pure 6 (by kernel_rfl) rfl rfl rfl rfl rfl (op_extract rfl rfl) ?_
                              refine TZ_pure 7 (by kernel_rfl) rfl rfl rfl rfl rfl (op_extract rfl rfl) ?_
                              refine TZ_one 8 (by kernel_rfl) rfl ?_
                              refine TL_alloc 2507 z26 rfl rfl rfl rfl rfl rfl rfl ?_
                              refine TL_nil ?_
                              refine TZ_one 9 (by kernel_rfl) rfl ?_
                              refine TL_store_box sz26 rfl rfl rfl rfl rfl rfl rfl rfl rfl ?_
                              refine TL_nil ?_
                              refine TZ_pure 10 (by kernel_rfl) rfl rfl rfl rfl rfl (op_assign rfl) ?_
                              refine TZ_done (by kernel_rfl) ?_
                              refine T_keepH [6, 7, 10, 13, 15, 16] [413, 733, 897, 898, 2187, 2507] rfl rfl rfl rfl (by rw [hF]; rfl) ?_
                              refine T_ren [(413, 413), (733, 733), (897, 897), (898, 898), (2187, 1307), (2507, 1627)] rfl rfl rfl (by rw [hF]; rfl) ?_
                              exact hj1 (r99.1.Next, r99.2) hm
                            refine TZ_cut 6 [true, true, true, true, false, false, false, false, true, false, false] ⟨[(2, .ptr 11 0 0), (3, .ptr 12 0 0), (6, .ptr 733 0 0), (7, .bool j0.2), (10, .ptr 898 0 0), (13, .int .i64 r85.1), (14, .int .i64 r88), (15, .ptr 2507 0 0), (82, .bool ((!r75) || (!(r42.2 == j0.2)))), (83, .agg [.ow 897]), (84, .int .i64 (1 : Int)), (85, .int .i64 r85.1), (86, .agg [.ow 897]), (87, .int .i64 (1 : Int)), (88, .int .i64 r88), (89, .int .i64 r88), (90, .bool (decide (r88 < (0 : Int)))), (91, .int .i64 r88), (92, .int .i64 r85.1), (93, .bool (!decide (r88 = r85.1))), (95, .agg [.sl 1 (List.map aLa_i64 p0.Next)]), (96, .agg [.ow 1947]), (97, .agg [.sl 1 (List.map aLa_i64 p1.Next)]), (98, .agg [.ow 2107])], [(11, .box [.sl 1 (List.map aLa_i64 p0.Next)]), (12, .box [.sl 1 (List.map aLa_i64 p1.Next)]), (413, .arr ⟨false, true⟩ 1 29 (List.map aLa_i64 j0.1)), (733, .box [.ow 413]), (897, .arr ⟨true, true⟩ 1 29 (List.map aLa_i64 r85.2)), (898, .box [.ow 897]), (1947, .arr ⟨false, true⟩ 1 29 (List.map aLa_i64 r96.Next)), (2107, .arr ⟨false, true⟩ 1 29 (List.map aLa_i64 r98.Next)), (2507, .box [.snil])]⟩ ?_ (fun hS1786_1 => ?_)
                            · refine TZ_one 4 (by kernel_rfl) rfl ?_
                              refine TL_callO [(1000, 2187)] (ACallG.F hI hg (c_impl_BothPolicies r96 r98 r99 hr99)) Tryd.call13 rfl rfl rfl rfl rfl rfl rfl rfl rfl rfl rfl rfl rfl ?_
                              refine TL_nil ?_
                              refine TZ_pure 5 (by kernel_rfl) rfl rfl rfl rfl rfl (op_move rfl) ?_
                              refine TZ_pure 6 (by kernel_rfl) rfl rfl rfl rfl rfl (op_extract rfl rfl) ?_
                              refine TZ_pure 7 (by kernel_rfl) rfl rfl rfl rfl rfl (op_extract rfl rfl) ?_
                              refine TZ_one 9 (by kernel_rfl) rfl ?_
                              refine TL_store_box sz26 rfl rfl rfl rfl rfl rfl rfl rfl rfl ?_
                              refine TL_nil ?_
                              refine TZ_pure 10 (by kernel_rfl) rfl rfl rfl rfl rfl (op_assign rfl) ?_
                              refine TZ_done (by kernel_rfl) ?_
                              refine T_keepH [6, 7, 10, 13, 15, 16] [413, 733, 897, 898, 2187, 2507] rfl rfl rfl rfl (by rw [hF]; rfl) ?_
                              refine T_ren [(413, 413), (733, 733), (897, 897), (898, 898), (2187, 1307), (2507, 1627)] rfl rfl rfl (by rw [hF]; rfl) ?_
                              exact hj1 (r99.1.Next, r99.2) hm
                            refine TZ_cut 7 [true, true, true, true, false, false, false, false, false, false, false] ⟨[(2, .ptr 11 0 0), (3, .ptr 12 0 0), (6, .ptr 733 0 0), (7, .bool j0.2), (10, .ptr 898 0 0), (13, .int .i64 r85.1), (14, .int .i64 r88), (82, .bool ((!r75) || (!(r42.2 == j0.2)))), (83, .agg [.ow 897]), (84, .int .i64 (1 : Int)), (85, .int .i64 r85.1), (86, .agg [.ow 897]), (87, .int .i64 (1 : Int)), (88, .int .i64 r88), (89, .int .i64 r88), (90, .bool (decide (r88 < (0 : Int)))), (91, .int .i64 r88), (92, .int .i64 r85.1), (93, .bool (!decide (r88 = r85.1))), (95, .agg [.sl 1 (List.map aLa_i64 p0.Next)]), (96, .agg [.ow 1947]), (97, .agg [.sl 1 (List.map aLa_i64 p1.Next)]), (98, .agg [.ow 2107])], [(11, .box [.sl 1 (List.map aLa_i64 p0.Next)]), (12, .box [.sl 1 (List.map aLa_i64 p1.Next)]), (413, .arr ⟨false, true⟩ 1 29 (List.map aLa_i64 j0.1)), (733, .box [.ow 413]), (897, .arr ⟨true, true⟩ 1 29 (List.map aLa_i64 r85.2)), (898, .box [.ow 897]), (1947, .arr ⟨false, true⟩ 1 29 (List.map aLa_i64 r96.Next)), (2107, .arr ⟨false, true⟩ 1 29 (List.map aLa_i64 r98.Next))]⟩ ?_ (fun hS1786_2 => ?_)
                            · refine TZ_each [4, 8] (by kernel_rfl) rfl ?_
                              refine ⟨?_, ?_⟩
                              · refine ⟨_, rfl, ?_⟩
                                refine TL_callO [(1000, 2187)] (ACallG.F hI hg (c_impl_BothPolicies r96 r98 r99 hr99)) Tryd.call13 rfl rfl rfl rfl rfl rfl rfl rfl rfl rfl rfl rfl rfl ?_
                                refine TL_nil ?_
                                refine TZ_keepH [2, 3, 6, 7, 10, 13, 14, 82, 83, 84, 85, 86, 87, 88, 89, 90, 91, 92, 93, 95, 96, 97, 98, 99] [11, 12, 413, 733, 897, 898, 1947, 2107, 2187] rfl rfl rfl rfl (by rw [hF]; rfl) ?_
                                exact hS1786_0
                              · refine ⟨_, rfl, ?_⟩
                                refine TL_alloc 2507 z26 rfl rfl rfl rfl rfl rfl rfl ?_
                                refine TL_nil ?_
                                refine TZ_keepH [2, 3, 6, 7, 10, 13, 14, 15, 82, 83, 84, 85, 86, 87, 88, 89, 90, 91, 92, 93, 95, 96, 97, 98] [11, 12, 413, 733, 897, 898, 1947, 2107, 2507] rfl rfl rfl rfl (by rw [hF]; rfl) ?_
                                exact hS1786_1
                            refine TZ_cut 7 [true, true, true, false, false, false, false, false, true, false, false] ⟨[(2, .ptr 11 0 0), (3, .ptr 12 0 0), (6, .ptr 733 0 0), (7, .bool j0.2), (10, .ptr 898 0 0), (13, .int .i64 r85.1), (14, .int .i64 r88), (15, .ptr 2507 0 0), (82, .bool ((!r75) || (!(r42.2 == j0.2)))), (83, .agg [.ow 897]), (84, .int .i64 (1 : Int)), (85, .int .i64 r85.1), (86, .agg [.ow 897]), (87, .int .i64 (1 : Int)), (88, .int .i64 r88), (89, .int .i64 r88), (90, .bool (decide (r88 < (0 : Int)))), (91, .int .i64 r88), (92, .int .i64 r85.1), (93, .bool (!decide (r88 = r85.1))), (95, .agg [.sl 1 (List.map aLa_i64 p0.Next)]), (96, .agg [.ow 1947]), (97, .agg [.sl 1 (List.map aLa_i64 p1.Next)])], [(11, .box [.sl 1 (List.map aLa_i64 p0.Next)]), (12, .box [.sl 1 (List.map aLa_i64 p1.Next)]), (413, .arr ⟨false, true⟩ 1 29 (List.map aLa_i64 j0.1)), (733, .box [.ow 413]), (897, .arr ⟨true, true⟩ 1 29 (List.map aLa_i64 r85.2)), (898, .box [.ow 897]), (1947, .arr ⟨false, true⟩ 1 29 (List.map aLa_i64 r96.Next)), (2507, .box [.snil])]⟩ ?_ (fun hS1786_3 => ?_)
                            · refine TZ_one 3 (by kernel_rfl) rfl ?_
                              refine TL_callO [(1000, 2107)] (ACall.F (F := F) (c_laws_toPolicy p1 r98 hr98)) Tryd.call18 rfl rfl rfl rfl rfl rfl rfl rfl rfl rfl rfl rfl rfl ?_
                              refine TL_nil ?_
                              refine TZ_one 4 (by kernel_rfl) rfl ?_
                              refine TL_callO [(1000, 2187)] (ACallG.F hI hg (c_impl_BothPolicies r96 r98 r99 hr99)) Tryd.call13 rfl rfl rfl rfl rfl rfl rfl rfl rfl rfl rfl rfl rfl ?_
                              refine TL_nil ?_
                              refine TZ_pure 5 (by kernel_rfl) rfl rfl rfl rfl rfl (op_move rfl) ?_
                              refine TZ_pure 6 (by kernel_rfl) rfl rfl rfl rfl rfl (op_extract rfl rfl) ?_
                              refine TZ_pure 7 (by kernel_rfl) rfl rfl rfl rfl rfl (op_extract rfl rfl) ?_
                              refine TZ_one 9 (by kernel_rfl) rfl ?_
                              refine TL_store_box sz26 rfl rfl rfl rfl rfl rfl rfl rfl rfl ?_
                              refine TL_nil ?_
                              refine TZ_pure 10 (by kernel_rfl) rfl rfl rfl rfl rfl (op_assign rfl) ?_
                              refine TZ_done (by kernel_rfl) ?_
                              refine T_keepH [6, 7, 10, 13, 15, 16] [413, 733, 897, 898, 2187, 2507] rfl rfl rfl rfl (by rw [hF]; rfl) ?_
                              refine T_ren [(413, 413), (733, 733), (897, 897), (898, 898), (2187, 1307), (2507, 1627)] rfl rfl rfl (by rw [hF]; rfl) ?_
                              exact hj1 (r99.1.Next, r99.2) hm
                            refine TZ_cut 8 [true, true, true, false, false, false, false, false, false, false, false] ⟨[(2, .ptr 11 0 0), (3, .ptr 12 0 0), (6, .ptr 733 0 0), (7, .bool j0.2), (10, .ptr 898 0 0), (13, .int .i64 r85.1), (14, .int .i64 r88), (82, .bool ((!r75) || (!(r42.2 == j0.2)))), (83, .agg [.ow 897]), (84, .int .i64 (1 : Int)), (85, .int .i64 r85.1), (86, .agg [.ow 897]), (87, .int .i64 (1 : Int)), (88, .int .i64 r88), (89, .int .i64 r88), (90, .bool (decide (r88 < (0 : Int)))), (91, .int .i64 r88), (92, .int .i64 r85.1), (93, .bool (!decide (r88 = r85.1))), (95, .agg [.sl 1 (List.map aLa_i64 p0.Next)]), (96, .agg [.ow 1947]), (97, .agg [.sl 1 (List.map aLa_i64 p1.Next)])], [(11, .box [.sl 1 (List.map aLa_i64 p0.Next)]), (12, .box [.sl 1 (List.map aLa_i64 p1.Next)]), (413, .arr ⟨false, true⟩ 1 29 (List.map aLa_i64 j0.1)), (733, .box [.ow 413]), (897, .arr ⟨true, true⟩ 1 29 (List.map aLa_i64 r85.2)), (898, .box [.ow 897]), (1947, .arr ⟨false, true⟩ 1 29 (List.map aLa_i64 r96.Next))]⟩ ?_ (fun hS1786_4 => ?_)
                            · refine TZ_each [3, 8] (by kernel_rfl) rfl ?_
                              refine ⟨?_, ?_⟩
                              · refine ⟨_, rfl, ?_⟩
                                refine TL_callO [(1000, 2107)] (ACall.F (F := F) (c_laws_toPolicy p1 r98 hr98)) Tryd.call18 rfl rfl rfl rfl rfl rfl rfl rfl rfl rfl rfl rfl rfl ?_
                                refine TL_nil ?_
                                refine TZ_keepH [2, 3, 6, 7, 10, 13, 14, 82, 83, 84, 85, 86, 87, 88, 89, 90, 91, 92, 93, 95, 96, 97, 98] [11, 12, 413, 733, 897, 898, 1947, 2107] rfl rfl rfl rfl (by rw [hF]; rfl) ?_
                                exact hS1786_2
                              · refine ⟨_, rfl, ?_⟩
                                refine TL_alloc 2507 z26 rfl rfl rfl rfl rfl rfl rfl ?_
                                refine TL_nil ?_
                                refine TZ_keepH [2, 3, 6, 7, 10, 13, 14, 15, 82, 83, 84, 85, 86, 87, 88, 89, 90, 91, 92, 93, 95, 96, 97] [11, 12, 413, 733, 897, 898, 1947, 2507] rfl rfl rfl rfl (by rw [hF]; rfl) ?_
                                exact hS1786_3
                            refine TZ_cut 8 [true, false, true, false, false, false, false, false, true, false, false] ⟨[(2, .ptr 11 0 0), (3, .ptr 12 0 0), (6, .ptr 733 0 0), (7, .bool j0.2), (10, .ptr 898 0 0), (13, .int .i64 r85.1), (14, .int .i64 r88), (15, .ptr 2507 0 0), (82, .bool ((!r75) || (!(r42.2 == j0.2)))), (83, .agg [.ow 897]), (84, .int .i64 (1 : Int)), (85, .int .i64 r85.1), (86, .agg [.ow 897]), (87, .int .i64 (1 : Int)), (88, .int .i64 r88), (89, .int .i64 r88), (90, .bool (decide (r88 < (0 : Int)))), (91, .int .i64 r88), (92, .int .i64 r85.1), (93, .bool (!decide (r88 = r85.1))), (95, .agg [.sl 1 (List.map aLa_i64 p0.Next)]), (97, .agg [.sl 1 (List.map aLa_i64 p1.Next)])], [(11, .box [.sl 1 (List.map aLa_i64 p0.Next)]), (12, .box [.sl 1 (List.map aLa_i64 p1.Next)]), (413, .arr ⟨false, true⟩ 1 29 (List.map aLa_i64 j0.1)), (733, .box [.ow 413]), (897, .arr ⟨true, true⟩ 1 29 (List.map aLa_i64 r85.2)), (898, .box [.ow 897]), (2507, .box [.snil])]⟩ ?_ (fun hS1786_5 => ?_)
                            · refine TZ_one 1 (by kernel_rfl) rfl ?_
                              refine TL_callO [(1000, 1947)] (ACall.F (F := F) (c_laws_toPolicy p0 r96 hr96)) Tryd.call18 rfl rfl rfl rfl rfl rfl rfl rfl rfl rfl rfl rfl rfl ?_
                              refine TL_nil ?_
                              refine TZ_one 3 (by kernel_rfl) rfl ?_
                              refine TL_callO [(1000, 2107)] (ACall.F (F := F) (c_laws_toPolicy p1 r98 hr98)) Tryd.call18 rfl rfl rfl rfl rfl rfl rfl rfl rfl rfl rfl rfl rfl ?_
                              refine TL_nil ?_
                              refine TZ_one 4 (by kernel_rfl) rfl ?_
                              refine TL_callO [(1000, 2187)] (ACallG.F hI hg (c_impl_BothPolicies r96 r98 r99 hr99)) Tryd.call13 rfl rfl rfl rfl rfl rfl rfl rfl rfl rfl rfl rfl rfl ?_
                              refine TL_nil ?_
                              refine TZ_pure 5 (by kernel_rfl) rfl rfl rfl rfl rfl (op_move rfl) ?_
                              refine TZ_pure 6 (by kernel_rfl) rfl rfl rfl rfl rfl (op_extract rfl rfl) ?_
                              refine TZ_pure 7 (by kernel_rfl) rfl rfl rfl rfl rfl (op_extract rfl rfl) ?_
                              refine TZ_one 9 (by kernel_rfl) rfl ?_
                              refine TL_store_box sz26 rfl rfl rfl rfl rfl rfl rfl rfl rfl ?_
                              refine TL_nil ?_
                              refine TZ_pure 10 (by kernel_rfl) rfl rfl rfl rfl rfl (op_assign rfl) ?_
                              refine TZ_done (by kernel_rfl) ?_
                              refine T_keepH [6, 7, 10, 13, 15, 16] [413, 733, 897, 898, 2187, 2507] rfl rfl rfl rfl (by rw [hF]; rfl) ?_
                              refine T_ren [(413, 413), (733, 733), (897, 897), (898, 898), (2187, 1307), (2507, 1627)] rfl rfl rfl (by rw [hF]; rfl) ?_
                              exact hj1 (r99.1.Next, r99.2) hm
                            refine TZ_each [1, 8] (by kernel_rfl) rfl ?_
                            refine ⟨?_, ?_⟩
                            · refine ⟨_, rfl, ?_⟩
                              refine TL_callO [(1000, 1947)] (ACall.F (F := F) (c_laws_toPolicy p0 r96 hr96)) Tryd.call18 rfl rfl rfl rfl rfl rfl rfl rfl rfl rfl rfl rfl rfl ?_
                              refine TL_nil ?_
                              refine TZ_keepH [2, 3, 6, 7, 10, 13, 14, 82, 83, 84, 85, 86, 87, 88, 89, 90, 91, 92, 93, 95, 96, 97] [11, 12, 413, 733, 897, 898, 1947] rfl rfl rfl rfl (by rw [hF]; rfl) ?_
                              exact hS1786_4
                            · refine ⟨_, rfl, ?_⟩
                              refine TL_alloc 2507 z26 rfl rfl rfl rfl rfl rfl rfl ?_
                              refine TL_nil ?_
                              refine TZ_keepH [2, 3, 6, 7, 10, 13, 14, 15, 82, 83, 84, 85, 86, 87, 88, 89, 90, 91, 92, 93, 95, 97] [11, 12, 413, 733, 897, 898, 2507] rfl rfl rfl rfl (by rw [hF]; rfl) ?_
                              exact hS1786_5
                  · refine TL_split 78 rfl rfl rfl (fun hq => ?_) (fun hq => ?_)
                    · refine TL_pass rfl rfl rfl rfl rfl rfl rfl ?_
                      refine TL_pass rfl rfl rfl rfl rfl rfl rfl ?_
                      refine TL_pass rfl rfl rfl rfl rfl rfl rfl ?_
                      refine TL_pure rfl rfl rfl rfl (op_pick_true rfl rfl) ?_
                      refine TL_keepH [2, 3, 6, 7, 10, 82] [11, 12, 413, 733, 897, 898] rfl rfl rfl rfl (by rw [hF]; rfl) ?_
                      exact TL_cast _ (by first | (rw [hq, Bool.true_or]; done) | (rw [hq]; rfl)) (hjj () trivial)
                    · refine TL_want rfl rfl ?_
                      refine TL_pure rfl rfl rfl rfl (op_move rfl) ?_
                      refine TL_want rfl rfl ?_
                      refine TL_pure rfl rfl rfl rfl (op_move rfl) ?_
                      refine TL_want rfl rfl ?_
                      refine TL_pure rfl rfl rfl rfl (op_neqB Tryd.underlying4 rfl rfl) ?_
                      refine TL_pure rfl rfl rfl rfl (op_pick_false rfl rfl) ?_
                      refine TL_keepH [2, 3, 6, 7, 10, 82] [11, 12, 413, 733, 897, 898] rfl rfl rfl rfl (by rw [hF]; rfl) ?_
                      exact TL_cast _ (by first | (rw [hq, Bool.false_or]; done) | (rw [hq]; rfl)) (hjj () trivial)
        · refine TL_split 49 rfl rfl rfl (fun hq => ?_) (fun hq => ?_)
          · refine TL_pass rfl rfl rfl rfl rfl rfl rfl ?_
            refine TL_pass rfl rfl rfl rfl rfl rfl rfl ?_
            refine TL_pass rfl rfl rfl rfl rfl rfl rfl ?_
            refine TL_pure rfl rfl rfl rfl (op_pick_true rfl rfl) ?_
            refine TL_keepH [2, 3, 6, 7, 8, 9, 10, 11, 53] [11, 12, 413, 733, 893, 894, 895, 896, 897, 898] rfl rfl rfl rfl (by rw [hF]; rfl) ?_
            exact TL_cast _ (by first | (rw [hq, Bool.true_or]; done) | (rw [hq]; rfl)) (hjj () trivial)
          · refine TL_want rfl rfl ?_
            refine TL_pure rfl rfl rfl rfl (op_move rfl) ?_
            refine TL_want rfl rfl ?_
            refine TL_pure rfl rfl rfl rfl (op_move rfl) ?_
            refine TL_want rfl rfl ?_
            refine TL_pure rfl rfl rfl rfl (op_neqB Tryd.underlying4 rfl rfl) ?_
            refine TL_pure rfl rfl rfl rfl (op_pick_false rfl rfl) ?_
            refine TL_keepH [2, 3, 6, 7, 8, 9, 10, 11, 53] [11, 12, 413, 733, 893, 894, 895, 896, 897, 898] rfl rfl rfl rfl (by rw [hF]; rfl) ?_
            exact TL_cast _ (by first | (rw [hq, Bool.false_or]; done) | (rw [hq]; rfl)) (hjj () trivial)
      · refine T_drawZ [9] mix (by kernel_rfl) rfl ?_
        obtain ⟨r29, hr29, hm⟩ := bindS hm
        obtain ⟨r31, hr31, hm⟩ := bindS hm
        obtain ⟨r32, hr32, hm⟩ := bindS hm
        refine TZ_pure 0 (by kernel_rfl) rfl rfl rfl rfl rfl (op_load_agg ag38 sz38 rfl rfl rfl) ?_
        refine TZ_pure 2 (by kernel_rfl) rfl rfl rfl rfl rfl (op_load_agg ag38 sz38 rfl rfl rfl) ?_
        refine TZ_cut 6 [true, true, true, true, true, false, false, false, false, false, false] ⟨[(0, .agg [.sl 1 (List.map aLa_i64 p0.Next)]), (1, .agg [.sl 1 (List.map aLa_i64 p1.Next)]), (2, .ptr 11 0 0), (3, .ptr 12 0 0), (4, .bool false), (5, .int .i64 r24), (17, .agg [.sl 1 (List.map aLa_i64 p0.Next)]), (18, .int .i64 (1048576 : Int)), (19, .int .i64 r19), (20, .int .i64 r19), (21, .bool (decide (r19 < (0 : Int)))), (22, .agg [.sl 1 (List.map aLa_i64 p1.Next)]), (23, .int .i64 r19), (24, .int .i64 r24), (25, .int .i64 r24), (26, .bool (decide (r24 < (0 : Int)))), (28, .agg [.sl 1 (List.map aLa_i64 p0.Next)]), (29, .agg [.ow 2827]), (30, .agg [.sl 1 (List.map aLa_i64 p1.Next)]), (31, .agg [.ow 2987]), (32, .tup [.agg [.ow 3067], .bool r32.2])], [(11, .box [.sl 1 (List.map aLa_i64 p0.Next)]), (12, .box [.sl 1 (List.map aLa_i64 p1.Next)]), (2827, .arr ⟨false, true⟩ 1 29 (List.map aLa_i64 r29.Next)), (2987, .arr ⟨false, true⟩ 1 29 (List.map aLa_i64 r31.Next)), (3067, .arr ⟨false, true⟩ 1 29 (List.map aLa_i64 r32.1.Next))]⟩ ?_ (fun hS2666_0 => ?_)
        · refine TZ_pure 5 (by kernel_rfl) rfl rfl rfl rfl rfl (op_move rfl) ?_
          refine TZ_pure 6 (by kernel_rfl) rfl rfl rfl rfl rfl (op_extract rfl rfl) ?_
          refine TZ_pure 7 (by kernel_rfl) rfl rfl rfl rfl rfl (op_extract rfl rfl) ?_
          refine TZ_one 8 (by kernel_rfl) rfl ?_
          refine TL_alloc 3387 z26 rfl rfl rfl rfl rfl rfl rfl ?_
          refine TL_nil ?_
          refine TZ_one 9 (by kernel_rfl) rfl ?_
          refine TL_store_box sz26 rfl rfl rfl rfl rfl rfl rfl rfl rfl ?_
          refine TL_nil ?_
          refine TZ_pure 10 (by kernel_rfl) rfl rfl rfl rfl rfl (op_assign rfl) ?_
          refine TZ_done (by kernel_rfl) ?_
          refine T_keepH [2, 3, 6, 7] [11, 12, 3067, 3387] rfl rfl rfl rfl (by rw [hF]; rfl) ?_
          refine T_ren [(11, 11), (12, 12), (3067, 413), (3387, 733)] rfl rfl rfl (by rw [hF]; rfl) ?_
          exact hj0 (r32.1.Next, r32.2) hm
        refine TZ_cut 6 [true, true, true, true, false, false, false, false, true, false, false] ⟨[(0, .agg [.sl 1 (List.map aLa_i64 p0.Next)]), (1, .agg [.sl 1 (List.map aLa_i64 p1.Next)]), (2, .ptr 11 0 0), (3, .ptr 12 0 0), (4, .bool false), (5, .int .i64 r24), (6, .ptr 3387 0 0), (17, .agg [.sl 1 (List.map aLa_i64 p0.Next)]), (18, .int .i64 (1048576 : Int)), (19, .int .i64 r19), (20, .int .i64 r19), (21, .bool (decide (r19 < (0 : Int)))), (22, .agg [.sl 1 (List.map aLa_i64 p1.Next)]), (23, .int .i64 r19), (24, .int .i64 r24), (25, .int .i64 r24), (26, .bool (decide (r24 < (0 : Int)))), (28, .agg [.sl 1 (List.map aLa_i64 p0.Next)]), (29, .agg [.ow 2827]), (30, .agg [.sl 1 (List.map aLa_i64 p1.Next)]), (31, .agg [.ow 2987])], [(11, .box [.sl 1 (List.map aLa_i64 p0.Next)]), (12, .box [.sl 1 (List.map aLa_i64 p1.Next)]), (2827, .arr ⟨false, true⟩ 1 29 (List.map aLa_i64 r29.Next)), (2987, .arr ⟨false, true⟩ 1 29 (List.map aLa_i64 r31.Next)), (3387, .box [.snil])]⟩ ?_ (fun hS2666_1 => ?_)
        · refine TZ_one 4 (by kernel_rfl) rfl ?_
          refine TL_callO [(1000, 3067)] (ACall.F (F := F) (c_spec_BothPolicies r29 r31 r32 hr32)) Tryd.call15 rfl rfl rfl rfl rfl rfl rfl rfl rfl rfl rfl rfl rfl ?_
          refine TL_nil ?_
          refine TZ_pure 5 (by kernel_rfl) rfl rfl rfl rfl rfl (op_move rfl) ?_
          refine TZ_pure 6 (by kernel_rfl) rfl rfl rfl rfl rfl (op_extract rfl rfl) ?_
          refine TZ_pure 7 (by kernel_rfl) rfl rfl rfl rfl rfl (op_extract rfl rfl) ?_
          refine TZ_one 9 (by kernel_rfl) rfl ?_
          refine TL_store_box sz26 rfl rfl rfl rfl rfl rfl rfl rfl rfl ?_
          refine TL_nil ?_
          refine TZ_pure 10 (by kernel_rfl) rfl rfl rfl rfl rfl (op_assign rfl) ?_
          refine TZ_done (by kernel_rfl) ?_
          refine T_keepH [2, 3, 6, 7] [11, 12, 3067, 3387] rfl rfl rfl rfl (by rw [hF]; rfl) ?_
          refine T_ren [(11, 11), (12, 12), (3067, 413), (3387, 733)] rfl rfl rfl (by rw [hF]; rfl) ?_
          exact hj0 (r32.1.Next, r32.2) hm
        refine TZ_cut 7 [true, true, true, true, false, false, false, false, false, false, false] ⟨[(0, .agg [.sl 1 (List.map aLa_i64 p0.Next)]), (1, .agg [.sl 1 (List.map aLa_i64 p1.Next)]), (2, .ptr 11 0 0), (3, .ptr 12 0 0), (4, .bool false), (5, .int .i64 r24), (17, .agg [.sl 1 (List.map aLa_i64 p0.Next)]), (18, .int .i64 (1048576 : Int)), (19, .int .i64 r19), (20, .int .i64 r19), (21, .bool (decide (r19 < (0 : Int)))), (22, .agg [.sl 1 (List.map aLa_i64 p1.Next)]), (23, .int .i64 r19), (24, .int .i64 r24), (25, .int .i64 r24), (26, .bool (decide (r24 < (0 : Int)))), (28, .agg [.sl 1 (List.map aLa_i64 p0.Next)]), (29, .agg [.ow 2827]), (30, .agg [.sl 1 (List.map aLa_i64 p1.Next)]), (31, .agg [.ow 2987])], [(11, .box [.sl 1 (List.map aLa_i64 p0.Next)]), (12, .box [.sl 1 (List.map aLa_i64 p1.Next)]), (2827, .arr ⟨false, true⟩ 1 29 (List.map aLa_i64 r29.Next)), (2987, .arr ⟨false, true⟩ 1 29 (List.map aLa_i64 r31.Next))]⟩ ?_ (fun hS2666_2 => ?_)
        · refine TZ_each [4, 8] (by kernel_rfl) rfl ?_
          refine ⟨?_, ?_⟩
          · refine ⟨_, rfl, ?_⟩
            refine TL_callO [(1000, 3067)] (ACall.F (F := F) (c_spec_BothPolicies r29 r31 r32 hr32)) Tryd.call15 rfl rfl rfl rfl rfl rfl rfl rfl rfl rfl rfl rfl rfl ?_
            refine TL_nil ?_
            refine TZ_keepH [0, 1, 2, 3, 4, 5, 17, 18, 19, 20, 21, 22, 23, 24, 25, 26, 28, 29, 30, 31, 32] [11, 12, 2827, 2987, 3067] rfl rfl rfl rfl (by rw [hF]; rfl) ?_
            exact hS2666_0
          · refine ⟨_, rfl, ?_⟩
            refine TL_alloc 3387 z26 rfl rfl rfl rfl rfl rfl rfl ?_
            refine TL_nil ?_
            refine TZ_keepH [0, 1, 2, 3, 4, 5, 6, 17, 18, 19, 20, 21, 22, 23, 24, 25, 26, 28, 29, 30, 31] [11, 12, 2827, 2987, 3387] rfl rfl rfl rfl (by rw [hF]; rfl) ?_
            exact hS2666_1
        refine TZ_cut 7 [true, true, true, false, false, false, false, false, true, false, false] ⟨[(0, .agg [.sl 1 (List.map aLa_i64 p0.Next)]), (1, .agg [.sl 1 (List.map aLa_i64 p1.Next)]), (2, .ptr 11 0 0), (3, .ptr 12 0 0), (4, .bool false), (5, .int .i64 r24), (6, .ptr 3387 0 0), (17, .agg [.sl 1 (List.map aLa_i64 p0.Next)]), (18, .int .i64 (1048576 : Int)), (19, .int .i64 r19), (20, .int .i64 r19), (21, .bool (decide (r19 < (0 : Int)))), (22, .agg [.sl 1 (List.map aLa_i64 p1.Next)]), (23, .int .i64 r19), (24, .int .i64 r24), (25, .int .i64 r24), (26, .bool (decide (r24 < (0 : Int)))), (28, .agg [.sl 1 (List.map aLa_i64 p0.Next)]), (29, .agg [.ow 2827]), (30, .agg [.sl 1 (List.map aLa_i64 p1.Next)])], [(11, .box [.sl 1 (List.map aLa_i64 p0.Next)]), (12, .box [.sl 1 (List.map aLa_i64 p1.Next)]), (2827, .arr ⟨false, true⟩ 1 29 (List.map aLa_i64 r29.Next)), (3387, .box [.snil])]⟩ ?_ (fun hS2666_3 => ?_)
        · refine TZ_one 3 (by kernel_rfl) rfl ?_
          refine TL_callO [(1000, 2987)] (ACall.F (F := F) (c_laws_toPolicy p1 r31 hr31)) Tryd.call18 rfl rfl rfl rfl rfl rfl rfl rfl rfl rfl rfl rfl rfl ?_
          refine TL_nil ?_
          refine TZ_one 4 (by kernel_rfl) rfl ?_
          refine TL_callO [(1000, 3067)] (ACall.F (F := F) (c_spec_BothPolicies r29 r31 r32 hr32)) Tryd.call15 rfl rfl rfl rfl rfl rfl rfl rfl rfl rfl rfl rfl rfl ?_
          refine TL_nil ?_
          refine TZ_pure 5 (by kernel_rfl) rfl rfl rfl rfl rfl (op_move rfl) ?_
          refine TZ_pure 6 (by kernel_rfl) rfl rfl rfl rfl rfl (op_extract rfl rfl) ?_
          refine TZ_pure 7 (by kernel_rfl) rfl rfl rfl rfl rfl (op_extract rfl rfl) ?_
          refine TZ_one 9 (by kernel_rfl) rfl ?_
          refine TL_store_box sz26 rfl rfl rfl rfl rfl rfl rfl rfl rfl ?_
          refine TL_nil ?_
          refine TZ_pure 10 (by kernel_rfl) rfl rfl rfl rfl rfl (op_assign rfl) ?_
          refine TZ_done (by kernel_rfl) ?_
          refine T_keepH [2, 3, 6, 7] [11, 12, 3067, 3387] rfl rfl rfl rfl (by rw [hF]; rfl) ?_
          refine T_ren [(11, 11), (12, 12), (3067, 413), (3387, 733)] rfl rfl rfl (by rw [hF]; rfl) ?_
          exact hj0 (r32.1.Next, r32.2) hm
        refine TZ_cut 8 [true, true, true, false, false, false, false, false, false, false, false] ⟨[(0, .agg [.sl 1 (List.map aLa_i64 p0.Next)]), (1, .agg [.sl 1 (List.map aLa_i64 p1.Next)]), (2, .ptr 11 0 0), (3, .ptr 12 0 0), (4, .bool false), (5, .int .i64 r24), (17, .agg [.sl 1 (List.map aLa_i64 p0.Next)]), (18, .int .i64 (1048576 : Int)), (19, .int .i64 r19), (20, .int .i64 r19), (21, .bool (decide (r19 < (0 : Int)))), (22, .agg [.sl 1 (List.map aLa_i64 p1.Next)]), (23, .int .i64 r19), (24, .int .i64 r24), (25, .int .i64 r24), (26, .bool (decide (r24 < (0 : Int)))), (28, .agg [.sl 1 (List.map aLa_i64 p0.Next)]), (29, .agg [.ow 2827]), (30, .agg [.sl 1 (List.map aLa_i64 p1.Next)])], [(11, .box [.sl 1 (List.map aLa_i64 p0.Next)]), (12, .box [.sl 1 (List.map aLa_i64 p1.Next)]), (2827, .arr ⟨false, true⟩ 1 29 (List.map aLa_i64 r29.Next))]⟩ ?_ (fun hS2666_4 => ?_)
        · refine TZ_each [3, 8] (by kernel_rfl) rfl ?_
          refine ⟨?_, ?_⟩
          · refine ⟨_, rfl, ?_⟩
            refine TL_callO [(1000, 2987)] (ACall.F (F := F) (c_laws_toPolicy p1 r31 hr31)) Tryd.call18 rfl rfl rfl rfl rfl rfl rfl rfl rfl rfl rfl rfl rfl ?_
            refine TL_nil ?_
            refine TZ_keepH [0, 1, 2, 3, 4, 5, 17, 18, 19, 20, 21, 22, 23, 24, 25, 26, 28, 29, 30, 31] [11, 12, 2827, 2987] rfl rfl rfl rfl (by rw [hF]; rfl) ?_
            exact hS2666_2
          · refine ⟨_, rfl, ?_⟩
            refine TL_alloc 3387 z26 rfl rfl rfl rfl rfl rfl rfl ?_
            refine TL_nil ?_
            refine TZ_keepH [0, 1, 2, 3, 4, 5, 6, 17, 18, 19, 20, 21, 22, 23, 24, 25, 26, 28, 29, 30] [11, 12, 2827, 3387] rfl rfl rfl rfl (by rw [hF]; rfl) ?_
            exact hS2666_3
        refine TZ_cut 8 [true, false, true, false, false, false, false, false, true, false, false] ⟨[(0, .agg [.sl 1 (List.map aLa_i64 p0.Next)]), (1, .agg [.sl 1 (List.map aLa_i64 p1.Next)]), (2, .ptr 11 0 0), (3, .ptr 12 0 0), (4, .bool false), (5, .int .i64 r24), (6, .ptr 3387 0 0), (17, .agg [.sl 1 (List.map aLa_i64 p0.Next)]), (18, .int .i64 (1048576 : Int)), (19, .int .i64 r19), (20, .int .i64 r19), (21, .bool (decide (r19 < (0 : Int)))), (22, .agg [.sl 1 (List.map aLa_i64 p1.Next)]), (23, .int .i64 r19), (24, .int .i64 r24), (25, .int .i64 r24), (26, .bool (decide (r24 < (0 : Int)))), (28, .agg [.sl 1 (List.map aLa_i64 p0.Next)]), (30, .agg [.sl 1 (List.map aLa_i64 p1.Next)])], [(11, .box [.sl 1 (List.map aLa_i64 p0.Next)]), (12, .box [.sl 1 (List.map aLa_i64 p1.Next)]), (3387, .box [.snil])]⟩ ?_ (fun hS2666_5 => ?_)
        · refine TZ_one 1 (by kernel_rfl) rfl ?_
          refine TL_callO [(1000, 2827)] (ACall.F (F := F) (c_laws_toPolicy p0 r29 hr29)) Tryd.call18 rfl rfl rfl rfl rfl rfl rfl rfl rfl rfl rfl rfl rfl ?_
          refine TL_nil ?_
          refine TZ_one 3 (by kernel_rfl) rfl ?_
          refine TL_callO [(1000, 2987)] (ACall.F (F := F) (c_laws_toPolicy p1 r31 hr31)) Tryd.call18 rfl rfl rfl rfl rfl rfl rfl rfl rfl rfl rfl rfl rfl ?_
          refine TL_nil ?_
          refine TZ_one 4 (by kernel_rfl) rfl ?_
          refine TL_callO [(1000, 3067)] (ACall.F (F := F) (c_spec_BothPolicies r29 r31 r32 hr32)) Tryd.call15 rfl rfl rfl rfl rfl rfl rfl rfl rfl rfl rfl rfl rfl ?_
          refine TL_nil ?_
          refine TZ_pure 5 (by kernel_rfl) rfl rfl rfl rfl rfl (op_move rfl) ?_
          refine TZ_pure 6 (by kernel_rfl) rfl rfl rfl rfl rfl (op_extract rfl rfl) ?_
          refine TZ_pure 7 (by kernel_rfl) rfl rfl rfl rfl rfl (op_extract rfl rfl) ?_
          refine TZ_one 9 (by kernel_rfl) rfl ?_
          refine TL_store_box sz26 rfl rfl rfl rfl rfl rfl rfl rfl rfl ?_
          refine TL_nil ?_
          refine TZ_pure 10 (by kernel_rfl) rfl rfl rfl rfl rfl (op_assign rfl) ?_
          refine TZ_done (by kernel_rfl) ?_
          refine T_keepH [2, 3, 6, 7] [11, 12, 3067, 3387] rfl rfl rfl rfl (by rw [hF]; rfl) ?_
          refine T_ren [(11, 11), (12, 12), (3067, 413), (3387, 733)] rfl rfl rfl (by rw [hF]; rfl) ?_
          exact hj0 (r32.1.Next, r32.2) hm
        refine TZ_each [1, 8] (by kernel_rfl) rfl ?_
        refine ⟨?_, ?_⟩
        · refine ⟨_, rfl, ?_⟩
          refine TL_callO [(1000, 2827)] (ACall.F (F := F) (c_laws_toPolicy p0 r29 hr29)) Tryd.call18 rfl rfl rfl rfl rfl rfl rfl rfl rfl rfl rfl rfl rfl ?_
          refine TL_nil ?_
          refine TZ_keepH [0, 1, 2, 3, 4, 5, 17, 18, 19, 20, 21, 22, 23, 24, 25, 26, 28, 29, 30] [11, 12, 2827] rfl rfl rfl rfl (by rw [hF]; rfl) ?_
          exact hS2666_4
        · refine ⟨_, rfl, ?_⟩
          refine TL_alloc 3387 z26 rfl rfl rfl rfl rfl rfl rfl ?_
          refine TL_nil ?_
          refine TZ_keepH [0, 1, 2, 3, 4, 5, 6, 17, 18, 19, 20, 21, 22, 23, 24, 25, 26, 28, 30] [11, 12, 3387] rfl rfl rfl rfl (by rw [hF]; rfl) ?_
          exact hS2666_5
end Go.Mod
