import Derived.Test.YtagnekdlhllndaaGh
namespace Go.Mod
open Go Go.AM Go.Proofs
set_option linter.unusedVariables false
set_option linter.unusedSimpArgs false
set_option maxRecDepth 100000
set_option maxHeartbeats 8000000
theorem c_laws_FnExactSimplifyBody (p0 : List Stmt) (out : Bool) (hm : m_laws_FnExactSimplifyBody p0 = some out) : ACall Try.prog 9 [.sl 8 (List.map a_Stmt p0)] [] (.bool out) [] := by
  refine ACall.intro Try.func9 rfl Try.ntmps9 rfl (fun F hF => ?_)
  unfold m_laws_FnExactSimplifyBody at hm
  refine T_seq ?_
  refine T_region ?_
  refine TL_pure rfl rfl rfl rfl (op_assign rfl) ?_
  refine TL_nil ?_
  refine T_seq ?_
  refine T_region ?_
  refine TL_pure rfl rfl rfl rfl (op_assign rfl) ?_
  refine TL_nil ?_
  refine T_seq ?_
  refine T_region ?_
  refine TL_pure rfl rfl rfl rfl (op_move rfl) ?_
  refine TL_pure rfl rfl rfl rfl (op_move rfl) ?_
  obtain ⟨r16, hr16, hm⟩ := bindS hm
  refine TL_callF (c_laws_szStmtS p0 (1048576 : Int) r16 hr16) Try.call21 rfl rfl rfl rfl rfl ?_
  refine TL_pure rfl rfl rfl rfl (op_assign rfl) ?_
  refine TL_nil ?_
  refine T_seq ?_
  refine T_seq ?_
  refine T_region ?_
  refine TL_pure rfl rfl rfl rfl (op_move rfl) ?_
  refine TL_pure rfl rfl rfl rfl (op_lss rfl rfl) ?_
  refine TL_nil ?_
  refine T_cond rfl (fun hq => ?_) (fun hq => ?_)
  · replace hm := condT hq hm
    refine T_seq ?_
    refine T_region ?_
    refine TL_pure rfl rfl rfl rfl (op_assign rfl) ?_
    refine TL_nil ?_
    refine T_keepH [2] [] rfl rfl rfl rfl (by rw [hF]; rfl) ?_
    refine T_ret ?_
    obtain rfl := someI hm
    refine ⟨[_], [], ⟨rfl, trivial⟩, ?_, rfl, rfl, rfl, rfl⟩
    rfl
  · replace hm := condF hq hm
    refine T_skip ?_
    refine T_seq ?_
    refine T_region ?_
    refine TL_pure rfl rfl rfl rfl (op_move rfl) ?_
    obtain ⟨r21, hr21, hm⟩ := bindS hm
    refine TL_callO [(1000, 11)] (c_laws_toStmtS p0 r21 hr21) Try.call23 rfl rfl rfl rfl rfl rfl rfl rfl rfl rfl rfl rfl rfl ?_
    obtain ⟨r22, hr22, hm⟩ := bindS hm
    refine TL_callO [(1000, 12)] (c_spec_SimplifyBody r21 r22 hr22) Try.call41 rfl rfl rfl rfl rfl rfl rfl rfl rfl rfl rfl rfl rfl ?_
    refine TL_pure rfl rfl rfl rfl (op_move rfl) ?_
    refine TL_pure rfl rfl rfl rfl (op_extract rfl rfl) ?_
    refine TL_pure rfl rfl rfl rfl (op_extract rfl rfl) ?_
    refine TL_pure rfl rfl rfl rfl (op_assign rfl) ?_
    refine TL_pure rfl rfl rfl rfl (op_assign rfl) ?_
    refine TL_nil ?_
    refine T_seq ?_
    refine T_region ?_
    refine TL_pure rfl rfl rfl rfl (op_move rfl) ?_
    obtain ⟨r26, hr26, hm⟩ := bindS hm
    refine TL_callO [(1000, 13)] (c_laws_toStmtS p0 r26 hr26) Try.call23 rfl rfl rfl rfl rfl rfl rfl rfl rfl rfl rfl rfl rfl ?_
    refine TL_pure rfl rfl rfl rfl (op_assign rfl) ?_
    refine TL_nil ?_
    refine T_seq ?_
    refine T_region ?_
    refine TL_pure rfl rfl rfl rfl (op_move rfl) ?_
    obtain ⟨r29, hr29, hm⟩ := bindS hm
    refine TL_callO [(1000, 14)] (c_impl_SimplifyBody r26 r29 hr29) Try.call34 rfl rfl rfl rfl rfl rfl rfl rfl rfl rfl rfl rfl rfl ?_
    refine TL_pure rfl rfl rfl rfl (op_move rfl) ?_
    refine TL_pure rfl rfl rfl rfl (op_extract rfl rfl) ?_
    refine TL_pure rfl rfl rfl rfl (op_extract rfl rfl) ?_
    refine TL_pure rfl rfl rfl rfl (op_assign rfl) ?_
    refine TL_pure rfl rfl rfl rfl (op_assign rfl) ?_
    refine TL_nil ?_
    refine T_seq ?_
    refine T_seq ?_
    refine T_region ?_
    refine TL_pure rfl rfl rfl rfl (op_move rfl) ?_
    refine TL_pure rfl rfl rfl rfl (op_move rfl) ?_
    obtain ⟨r34, hr34, hm⟩ := bindS hm
    refine TL_callF (c_laws_eqStmtS r29.1 r22.1 r34 hr34) Try.call25 rfl rfl rfl rfl rfl ?_
    refine TL_pure rfl rfl rfl rfl (op_not rfl) ?_
    refine TL_pure rfl rfl rfl rfl (op_move rfl) ?_
    refine TL_join 4 (fun _ : Unit => ⟨[(0, .sl 8 (List.map a_Stmt p0)), (4, .ow 12), (5, .bool r22.2), (6, .ow 13), (7, .ow 14), (8, .bool r29.2), (40, .bool ((!r34) || (!(r29.2 == r22.2))))], [(12, .arr ⟨false, true⟩ 8 77 (List.map a_Stmt r22.1)), (13, .arr ⟨false, true⟩ 8 77 (List.map a_Stmt r26)), (14, .arr ⟨false, true⟩ 8 77 (List.map a_Stmt r29.1))]⟩) (fun _ => True) (fun _ _ => ?_) (fun hjj => ?_)
    · refine TL_nil ?_
      refine T_cond rfl (fun hq => ?_) (fun hq => ?_)
      · replace hm := condT hq hm
        refine T_seq ?_
        refine T_region ?_
        refine TL_pure rfl rfl rfl rfl (op_assign rfl) ?_
        refine TL_nil ?_
        refine T_keepH [2] [] rfl rfl rfl rfl (by rw [hF]; rfl) ?_
        refine T_ret ?_
        obtain rfl := someI hm
        refine ⟨[_], [], ⟨rfl, trivial⟩, ?_, rfl, rfl, rfl, rfl⟩
        rfl
      · replace hm := condF hq hm
        refine T_skip ?_
        refine T_seq ?_
        refine T_seq ?_
        refine T_region ?_
        refine TL_pure rfl rfl rfl rfl (op_move rfl) ?_
        refine TL_pure rfl rfl rfl rfl (op_move rfl) ?_
        obtain ⟨r43, hr43, hm⟩ := bindS hm
        refine TL_callO [(1000, 15)] (c_laws_toStmtS p0 r43 hr43) Try.call23 rfl rfl rfl rfl rfl rfl rfl rfl rfl rfl rfl rfl rfl ?_
        obtain ⟨r44, hr44, hm⟩ := bindS hm
        refine TL_callF (c_laws_eqStmtS r26 r43 r44 hr44) Try.call25 rfl rfl rfl rfl rfl ?_
        refine TL_pure rfl rfl rfl rfl (op_not rfl) ?_
        refine TL_nil ?_
        refine T_cond rfl (fun hq => ?_) (fun hq => ?_)
        · replace hm := condT hq hm
          refine T_seq ?_
          refine T_region ?_
          refine TL_pure rfl rfl rfl rfl (op_assign rfl) ?_
          refine TL_nil ?_
          refine T_keepH [2] [] rfl rfl rfl rfl (by rw [hF]; rfl) ?_
          refine T_ret ?_
          obtain rfl := someI hm
          refine ⟨[_], [], ⟨rfl, trivial⟩, ?_, rfl, rfl, rfl, rfl⟩
          rfl
        · replace hm := condF hq hm
          refine T_skip ?_
          refine T_seq ?_
          refine T_region ?_
          refine TL_pure rfl rfl rfl rfl (op_assign rfl) ?_
          refine TL_nil ?_
          refine T_seq ?_
          refine T_region ?_
          refine TL_pure rfl rfl rfl rfl (op_move rfl) ?_
          refine TL_pure rfl rfl rfl rfl (op_move rfl) ?_
          refine TL_pin 13 (k' := ⟨true, true⟩) (by rw [hF]; rfl) rfl rfl rfl ?_
          obtain ⟨r48, hr48, hm⟩ := bindS hm
          refine TL_call [(0, 13)] [] [] (c_laws_markStmtS r26 (1 : Int) r48 hr48 _) Try.call26 rfl rfl rfl rfl rfl ⟨rfl, trivial⟩ rfl rfl rfl rfl rfl rfl rfl rfl rfl rfl rfl ?_
          refine TL_pure rfl rfl rfl rfl (op_assign rfl) ?_
          refine TL_nil ?_
          refine T_seq ?_
          refine T_seq ?_
          refine T_region ?_
          refine TL_pure rfl rfl rfl rfl (op_move rfl) ?_
          refine TL_pure rfl rfl rfl rfl (op_lss rfl rfl) ?_
          refine TL_pure rfl rfl rfl rfl (op_move rfl) ?_
          refine TL_split 51 rfl rfl rfl (fun hq => ?_) (fun hq => ?_)
          · replace hm := condT hq hm
            refine TL_pass rfl rfl rfl rfl rfl rfl rfl ?_
            refine TL_pass rfl rfl rfl rfl rfl rfl rfl ?_
            refine TL_pass rfl rfl rfl rfl rfl rfl rfl ?_
            refine TL_pass rfl rfl rfl rfl rfl rfl rfl ?_
            refine TL_pure rfl rfl rfl rfl (op_pick_true rfl rfl) ?_
            refine TL_pure rfl rfl rfl rfl (op_move rfl) ?_
            refine TL_pass rfl rfl rfl rfl rfl rfl rfl ?_
            refine TL_pass rfl rfl rfl rfl rfl rfl rfl ?_
            refine TL_pass rfl rfl rfl rfl rfl rfl rfl ?_
            refine TL_pure rfl rfl rfl rfl (op_pick_true rfl rfl) ?_
            refine TL_nil ?_
            refine T_cond_true rfl ?_
            refine T_seq ?_
            refine T_region ?_
            refine TL_pure rfl rfl rfl rfl (op_assign rfl) ?_
            refine TL_nil ?_
            refine T_keepH [2] [] rfl rfl rfl rfl (by rw [hF]; rfl) ?_
            refine T_ret ?_
            obtain rfl := someI hm
            refine ⟨[_], [], ⟨rfl, trivial⟩, ?_, rfl, rfl, rfl, rfl⟩
            rfl
          · replace hm := condF hq hm
            refine TL_want rfl rfl ?_
            refine TL_pure rfl rfl rfl rfl (op_move rfl) ?_
            refine TL_want rfl rfl ?_
            refine TL_pure rfl rfl rfl rfl (op_move rfl) ?_
            refine TL_want rfl rfl ?_
            obtain ⟨r54, hr54, hm⟩ := bindS hm
            refine TL_callF (c_laws_eqStmtS r29.1 r22.1 r54 hr54) Try.call25 rfl rfl rfl rfl rfl ?_
            refine TL_want rfl rfl ?_
            refine TL_pure rfl rfl rfl rfl (op_not rfl) ?_
            refine TL_pure rfl rfl rfl rfl (op_pick_false rfl rfl) ?_
            refine TL_pure rfl rfl rfl rfl (op_move rfl) ?_
            refine TL_join 4 (fun _ : Unit => ⟨[(0, .sl 8 (List.map a_Stmt p0)), (4, .ow 12), (5, .bool r22.2), (7, .ow 14), (61, .bool ((!r54) || (!(r29.2 == r22.2))))], [(12, .arr ⟨false, true⟩ 8 77 (List.map a_Stmt r22.1)), (14, .arr ⟨false, true⟩ 8 77 (List.map a_Stmt r29.1))]⟩) (fun _ => True) (fun _ _ => ?_) (fun hjj => ?_)
            · refine TL_nil ?_
              refine T_cond rfl (fun hq => ?_) (fun hq => ?_)
              · replace hm := condT hq hm
                refine T_seq ?_
                refine T_region ?_
                refine TL_pure rfl rfl rfl rfl (op_assign rfl) ?_
                refine TL_nil ?_
                refine T_keepH [2] [] rfl rfl rfl rfl (by rw [hF]; rfl) ?_
                refine T_ret ?_
                obtain rfl := someI hm
                refine ⟨[_], [], ⟨rfl, trivial⟩, ?_, rfl, rfl, rfl, rfl⟩
                rfl
              · replace hm := condF hq hm
                refine T_skip ?_
                refine T_seq ?_
                refine T_region ?_
                refine TL_pure rfl rfl rfl rfl (op_assign rfl) ?_
                refine TL_nil ?_
                refine T_seq ?_
                refine T_region ?_
                refine TL_pure rfl rfl rfl rfl (op_move rfl) ?_
                refine TL_pure rfl rfl rfl rfl (op_move rfl) ?_
                refine TL_pin 14 (k' := ⟨true, true⟩) (by rw [hF]; rfl) rfl rfl rfl ?_
                obtain ⟨r64, hr64, hm⟩ := bindS hm
                refine TL_call [(0, 14)] [] [] (c_laws_markStmtS r29.1 (1 : Int) r64 hr64 _) Try.call26 rfl rfl rfl rfl rfl ⟨rfl, trivial⟩ rfl rfl rfl rfl rfl rfl rfl rfl rfl rfl rfl ?_
                refine TL_pure rfl rfl rfl rfl (op_assign rfl) ?_
                refine TL_nil ?_
                refine T_seq ?_
                refine T_region ?_
                refine TL_pure rfl rfl rfl rfl (op_assign rfl) ?_
                refine TL_nil ?_
                refine T_seq ?_
                refine T_region ?_
                refine TL_pure rfl rfl rfl rfl (op_move rfl) ?_
                refine TL_pure rfl rfl rfl rfl (op_move rfl) ?_
                obtain ⟨r67, hr67, hm⟩ := bindS hm
                refine TL_callF (c_laws_heldStmtS r64.2 (1 : Int) r67 hr67) Try.call27 rfl rfl rfl rfl rfl ?_
                refine TL_pure rfl rfl rfl rfl (op_assign rfl) ?_
                refine TL_nil ?_
                refine T_seq ?_
                refine T_seq ?_
                refine T_region ?_
                refine TL_pure rfl rfl rfl rfl (op_move rfl) ?_
                refine TL_pure rfl rfl rfl rfl (op_lss rfl rfl) ?_
                refine TL_nil ?_
                refine T_cond rfl (fun hq => ?_) (fun hq => ?_)
                · replace hm := condT hq hm
                  refine T_seq ?_
                  refine T_region ?_
                  refine TL_pure rfl rfl rfl rfl (op_assign rfl) ?_
                  refine TL_nil ?_
                  refine T_keepH [2] [] rfl rfl rfl rfl (by rw [hF]; rfl) ?_
                  refine T_ret ?_
                  obtain rfl := someI hm
                  refine ⟨[_], [], ⟨rfl, trivial⟩, ?_, rfl, rfl, rfl, rfl⟩
                  rfl
                · replace hm := condF hq hm
                  refine T_skip ?_
                  refine T_seq ?_
                  refine T_seq ?_
                  refine T_region ?_
                  refine TL_pure rfl rfl rfl rfl (op_move rfl) ?_
                  refine TL_pure rfl rfl rfl rfl (op_move rfl) ?_
                  refine TL_pure rfl rfl rfl rfl (op_neq rfl rfl) ?_
                  refine TL_nil ?_
                  refine T_cond rfl (fun hq => ?_) (fun hq => ?_)
                  · replace hm := condT hq hm
                    refine T_seq ?_
                    refine T_region ?_
                    refine TL_pure rfl rfl rfl rfl (op_assign rfl) ?_
                    refine TL_nil ?_
                    refine T_keepH [2] [] rfl rfl rfl rfl (by rw [hF]; rfl) ?_
                    refine T_ret ?_
                    obtain rfl := someI hm
                    refine ⟨[_], [], ⟨rfl, trivial⟩, ?_, rfl, rfl, rfl, rfl⟩
                    rfl
                  · replace hm := condF hq hm
                    refine T_skip ?_
                    refine T_seq ?_
                    refine T_region ?_
                    refine TL_pure rfl rfl rfl rfl (op_move rfl) ?_
                    obtain ⟨r75, hr75, hm⟩ := bindS hm
                    refine TL_callO [(1000, 16)] (c_laws_toStmtS p0 r75 hr75) Try.call23 rfl rfl rfl rfl rfl rfl rfl rfl rfl rfl rfl rfl rfl ?_
                    obtain ⟨r76, hr76, hm⟩ := bindS hm
                    refine TL_callO [(1000, 17)] (c_impl_SimplifyBody r75 r76 hr76) Try.call34 rfl rfl rfl rfl rfl rfl rfl rfl rfl rfl rfl rfl rfl ?_
                    refine TL_pure rfl rfl rfl rfl (op_move rfl) ?_
                    refine TL_pure rfl rfl rfl rfl (op_extract rfl rfl) ?_
                    refine TL_pure rfl rfl rfl rfl (op_extract rfl rfl) ?_
                    refine TL_pure rfl rfl rfl rfl (op_assign rfl) ?_
                    refine TL_pure rfl rfl rfl rfl (op_assign rfl) ?_
                    refine TL_nil ?_
                    refine T_seq ?_
                    refine T_seq ?_
                    refine T_region ?_
                    refine TL_pure rfl rfl rfl rfl (op_move rfl) ?_
                    refine TL_pure rfl rfl rfl rfl (op_move rfl) ?_
                    obtain ⟨r81, hr81, hm⟩ := bindS hm
                    refine TL_callF (c_laws_eqStmtS r76.1 r22.1 r81 hr81) Try.call25 rfl rfl rfl rfl rfl ?_
                    refine TL_pure rfl rfl rfl rfl (op_not rfl) ?_
                    refine TL_pure rfl rfl rfl rfl (op_move rfl) ?_
                    refine TL_join 4 (fun _ : Unit => ⟨[(7, .ow 14), (10, .int .i64 r64.1), (87, .bool ((!r81) || (!(r76.2 == r22.2))))], [(14, .arr ⟨true, true⟩ 8 77 (List.map a_Stmt r64.2))]⟩) (fun _ => True) (fun _ _ => ?_) (fun hjj => ?_)
                    · refine TL_nil ?_
                      refine T_cond rfl (fun hq => ?_) (fun hq => ?_)
                      · replace hm := condT hq hm
                        refine T_seq ?_
                        refine T_region ?_
                        refine TL_pure rfl rfl rfl rfl (op_assign rfl) ?_
                        refine TL_nil ?_
                        refine T_keepH [2] [] rfl rfl rfl rfl (by rw [hF]; rfl) ?_
                        refine T_ret ?_
                        obtain rfl := someI hm
                        refine ⟨[_], [], ⟨rfl, trivial⟩, ?_, rfl, rfl, rfl, rfl⟩
                        rfl
                      · replace hm := condF hq hm
                        refine T_skip ?_
                        refine T_seq ?_
                        refine T_region ?_
                        refine TL_pure rfl rfl rfl rfl (op_assign rfl) ?_
                        refine TL_nil ?_
                        refine T_seq ?_
                        refine T_region ?_
                        refine TL_pure rfl rfl rfl rfl (op_move rfl) ?_
                        refine TL_pure rfl rfl rfl rfl (op_move rfl) ?_
                        obtain ⟨r90, hr90, hm⟩ := bindS hm
                        refine TL_callF (c_laws_heldStmtS r64.2 (1 : Int) r90 hr90) Try.call27 rfl rfl rfl rfl rfl ?_
                        refine TL_pure rfl rfl rfl rfl (op_assign rfl) ?_
                        refine TL_nil ?_
                        refine T_seq ?_
                        refine T_seq ?_
                        refine T_region ?_
                        refine TL_pure rfl rfl rfl rfl (op_move rfl) ?_
                        refine TL_pure rfl rfl rfl rfl (op_lss rfl rfl) ?_
                        refine TL_nil ?_
                        refine T_cond rfl (fun hq => ?_) (fun hq => ?_)
                        · replace hm := condT hq hm
                          refine T_seq ?_
                          refine T_region ?_
                          refine TL_pure rfl rfl rfl rfl (op_assign rfl) ?_
                          refine TL_nil ?_
                          refine T_keepH [2] [] rfl rfl rfl rfl (by rw [hF]; rfl) ?_
                          refine T_ret ?_
                          obtain rfl := someI hm
                          refine ⟨[_], [], ⟨rfl, trivial⟩, ?_, rfl, rfl, rfl, rfl⟩
                          rfl
                        · replace hm := condF hq hm
                          refine T_skip ?_
                          refine T_seq ?_
                          refine T_seq ?_
                          refine T_region ?_
                          refine TL_pure rfl rfl rfl rfl (op_move rfl) ?_
                          refine TL_pure rfl rfl rfl rfl (op_move rfl) ?_
                          refine TL_pure rfl rfl rfl rfl (op_neq rfl rfl) ?_
                          refine TL_nil ?_
                          refine T_cond rfl (fun hq => ?_) (fun hq => ?_)
                          · replace hm := condT hq hm
                            refine T_seq ?_
                            refine T_region ?_
                            refine TL_pure rfl rfl rfl rfl (op_assign rfl) ?_
                            refine TL_nil ?_
                            refine T_keepH [2] [] rfl rfl rfl rfl (by rw [hF]; rfl) ?_
                            refine T_ret ?_
                            obtain rfl := someI hm
                            refine ⟨[_], [], ⟨rfl, trivial⟩, ?_, rfl, rfl, rfl, rfl⟩
                            rfl
                          · replace hm := condF hq hm
                            refine T_skip ?_
                            refine T_seq ?_
                            refine T_region ?_
                            refine TL_pure rfl rfl rfl rfl (op_assign rfl) ?_
                            refine TL_nil ?_
                            refine T_keepH [2] [] rfl rfl rfl rfl (by rw [hF]; rfl) ?_
                            refine T_ret ?_
                            obtain rfl := someI hm
                            refine ⟨[_], [], ⟨rfl, trivial⟩, ?_, rfl, rfl, rfl, rfl⟩
                            rfl
                    · refine TL_split 83 rfl rfl rfl (fun hq => ?_) (fun hq => ?_)
                      · refine TL_pass rfl rfl rfl rfl rfl rfl rfl ?_
                        refine TL_pass rfl rfl rfl rfl rfl rfl rfl ?_
                        refine TL_pass rfl rfl rfl rfl rfl rfl rfl ?_
                        refine TL_pure rfl rfl rfl rfl (op_pick_true rfl rfl) ?_
                        refine TL_keepH [7, 10, 87] [14] rfl rfl rfl rfl (by rw [hF]; rfl) ?_
                        exact TL_cast _ (by first | (rw [hq, Bool.true_or]; done) | (rw [hq]; rfl)) (hjj () trivial)
                      · refine TL_want rfl rfl ?_
                        refine TL_pure rfl rfl rfl rfl (op_move rfl) ?_
                        refine TL_want rfl rfl ?_
                        refine TL_pure rfl rfl rfl rfl (op_move rfl) ?_
                        refine TL_want rfl rfl ?_
                        refine TL_pure rfl rfl rfl rfl (op_neqB Try.underlying4 rfl rfl) ?_
                        refine TL_pure rfl rfl rfl rfl (op_pick_false rfl rfl) ?_
                        refine TL_keepH [7, 10, 87] [14] rfl rfl rfl rfl (by rw [hF]; rfl) ?_
                        exact TL_cast _ (by first | (rw [hq, Bool.false_or]; done) | (rw [hq]; rfl)) (hjj () trivial)
            · refine TL_split 57 rfl rfl rfl (fun hq => ?_) (fun hq => ?_)
              · refine TL_pass rfl rfl rfl rfl rfl rfl rfl ?_
                refine TL_pass rfl rfl rfl rfl rfl rfl rfl ?_
                refine TL_pass rfl rfl rfl rfl rfl rfl rfl ?_
                refine TL_pure rfl rfl rfl rfl (op_pick_true rfl rfl) ?_
                refine TL_keepH [0, 4, 5, 7, 61] [12, 14] rfl rfl rfl rfl (by rw [hF]; rfl) ?_
                exact TL_cast _ (by first | (rw [hq, Bool.true_or]; done) | (rw [hq]; rfl)) (hjj () trivial)
              · refine TL_want rfl rfl ?_
                refine TL_pure rfl rfl rfl rfl (op_move rfl) ?_
                refine TL_want rfl rfl ?_
                refine TL_pure rfl rfl rfl rfl (op_move rfl) ?_
                refine TL_want rfl rfl ?_
                refine TL_pure rfl rfl rfl rfl (op_neqB Try.underlying4 rfl rfl) ?_
                refine TL_pure rfl rfl rfl rfl (op_pick_false rfl rfl) ?_
                refine TL_keepH [0, 4, 5, 7, 61] [12, 14] rfl rfl rfl rfl (by rw [hF]; rfl) ?_
                exact TL_cast _ (by first | (rw [hq, Bool.false_or]; done) | (rw [hq]; rfl)) (hjj () trivial)
    · refine TL_split 36 rfl rfl rfl (fun hq => ?_) (fun hq => ?_)
      · refine TL_pass rfl rfl rfl rfl rfl rfl rfl ?_
        refine TL_pass rfl rfl rfl rfl rfl rfl rfl ?_
        refine TL_pass rfl rfl rfl rfl rfl rfl rfl ?_
        refine TL_pure rfl rfl rfl rfl (op_pick_true rfl rfl) ?_
        refine TL_keepH [0, 4, 5, 6, 7, 8, 40] [12, 13, 14] rfl rfl rfl rfl (by rw [hF]; rfl) ?_
        exact TL_cast _ (by first | (rw [hq, Bool.true_or]; done) | (rw [hq]; rfl)) (hjj () trivial)
      · refine TL_want rfl rfl ?_
        refine TL_pure rfl rfl rfl rfl (op_move rfl) ?_
        refine TL_want rfl rfl ?_
        refine TL_pure rfl rfl rfl rfl (op_move rfl) ?_
        refine TL_want rfl rfl ?_
        refine TL_pure rfl rfl rfl rfl (op_neqB Try.underlying4 rfl rfl) ?_
        refine TL_pure rfl rfl rfl rfl (op_pick_false rfl rfl) ?_
        refine TL_keepH [0, 4, 5, 6, 7, 8, 40] [12, 13, 14] rfl rfl rfl rfl (by rw [hF]; rfl) ?_
        exact TL_cast _ (by first | (rw [hq, Bool.false_or]; done) | (rw [hq]; rfl)) (hjj () trivial)
end Go.Mod
