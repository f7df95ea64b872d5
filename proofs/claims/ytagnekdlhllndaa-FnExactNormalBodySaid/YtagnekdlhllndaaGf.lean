import Derived.Test.YtagnekdlhllndaaGe
namespace Go.Mod
open Go Go.AM Go.Proofs
set_option linter.unusedVariables false
set_option linter.unusedSimpArgs false
set_option maxRecDepth 100000
set_option maxHeartbeats 8000000
theorem c_impl_kidsOf (p0 : Stmt) (out : Int) (hm : m_impl_kidsOf p0 = some out) : ACall Try.prog 125 [.agg [.int .i64 p0.Kind, .int .i64 p0.Var, .int .i64 p0.Event, .int .i64 p0.Sum.Const, .sl 1 (List.map a_i64 p0.Sum.Coeffs), .int .i64 p0.Index.Const, .sl 1 (List.map a_i64 p0.Index.Coeffs), .sl 2 (List.map a_Term p0.Facts)]] [] (.int .i64 out) [] := by
  refine ACall.intro Try.func125 rfl Try.ntmps125 rfl (fun F hF => ?_)
  unfold m_impl_kidsOf at hm
  refine T_seq ?_
  refine T_region ?_
  refine TL_box 11 rfl rfl rfl rfl rfl rfl rfl ?_
  refine TL_pure rfl rfl rfl rfl (op_assign rfl) ?_
  refine TL_nil ?_
  refine T_seq ?_
  refine T_drawZ [] mix (by kernel_rfl) rfl ?_
  obtain ⟨r17, hr17, hm⟩ := bindS hm
  obtain ⟨r20, hr20, hm⟩ := bindS hm
  refine TZ_pure 0 (by kernel_rfl) rfl rfl rfl rfl rfl (op_fieldAddr fa77_1 rfl rfl) ?_
  refine TZ_pure 1 (by kernel_rfl) rfl rfl rfl rfl rfl (op_load_one ag2 rfl rfl) ?_
  refine TZ_pure 2 (by kernel_rfl) rfl rfl rfl rfl rfl (op_eql rfl rfl) ?_
  refine TZ_pure 3 (by kernel_rfl) rfl rfl rfl rfl rfl (op_fieldAddr fa77_2 rfl rfl) ?_
  refine TZ_pure 4 (by kernel_rfl) rfl rfl rfl rfl rfl (op_load_one ag2 rfl rfl) ?_
  refine TZ_pure 5 (by kernel_rfl) rfl rfl rfl rfl rfl (op_eql rfl rfl) ?_
  refine TZ_pure 6 (by kernel_rfl) rfl rfl rfl rfl rfl (op_fieldAddr fa77_3 rfl rfl) ?_
  refine TZ_pure 7 (by kernel_rfl) rfl rfl rfl rfl rfl (op_load_agg ag75 sz75 rfl rfl rfl) ?_
  refine TZ_pure 9 (by kernel_rfl) rfl rfl rfl rfl rfl (op_fieldAddr fa77_4 rfl rfl) ?_
  refine TZ_pure 10 (by kernel_rfl) rfl rfl rfl rfl rfl (op_load_agg ag75 sz75 rfl rfl rfl) ?_
  refine TZ_pure 12 (by kernel_rfl) rfl rfl rfl rfl rfl (op_fieldAddr fa77_5 rfl rfl) ?_
  refine TZ_pure 13 (by kernel_rfl) rfl rfl rfl rfl rfl (op_load_one ag24 rfl rfl) ?_
  refine TZ_pure 14 (by kernel_rfl) rfl rfl rfl rfl rfl (op_lenT Try.underlying24 rfl (List.length_map _)) ?_
  refine TZ_fact (fun _ _ _ hr => RelP.slLen (i := 22) rfl hr) (fun hlen23 => ?_)
  rw [List.length_map] at hlen23
  refine TZ_pure 15 (by kernel_rfl) rfl rfl rfl rfl rfl (op_eql rfl rfl) ?_
  refine TZ_one 8 (by kernel_rfl) rfl ?_
  refine TL_callF (c_impl_Term_isZero p0.Sum r17 hr17) Try.call137 rfl rfl rfl rfl rfl ?_
  refine TL_nil ?_
  refine TZ_one 11 (by kernel_rfl) rfl ?_
  refine TL_callF (c_impl_Term_isZero p0.Index r20 hr20) Try.call137 rfl rfl rfl rfl rfl ?_
  refine TL_nil ?_
  refine TZ_pure 16 (by kernel_rfl) rfl rfl rfl rfl rfl (op_assign rfl) ?_
  refine TZ_pure 17 (by kernel_rfl) rfl rfl rfl rfl rfl (op_assign rfl) ?_
  refine TZ_pure 18 (by kernel_rfl) rfl rfl rfl rfl rfl (op_assign rfl) ?_
  refine TZ_pure 19 (by kernel_rfl) rfl rfl rfl rfl rfl (op_assign rfl) ?_
  refine TZ_pure 20 (by kernel_rfl) rfl rfl rfl rfl rfl (op_assign rfl) ?_
  refine TZ_done (by kernel_rfl) ?_
  refine T_seq ?_
  refine T_region ?_
  refine TL_pure rfl rfl rfl rfl (op_assign rfl) ?_
  refine TL_nil ?_
  refine T_seq ?_
  refine T_seq ?_
  refine T_region ?_
  refine TL_pure rfl rfl rfl rfl (op_fieldAddr fa77_0 rfl rfl) ?_
  refine TL_pure rfl rfl rfl rfl (op_load_one ag2 rfl rfl) ?_
  refine TL_nil ?_
  refine T_block ?_
  refine T_seq ?_
  refine T_region ?_
  refine TL_pure rfl rfl rfl rfl (op_eql rfl rfl) ?_
  refine TL_pure rfl rfl rfl rfl (op_assign rfl) ?_
  refine TL_nil ?_
  refine T_cond rfl (fun hq => ?_) (fun hq => ?_)
  · replace hm := condT hq hm
    refine T_seq ?_
    refine T_region ?_
    refine TL_pure rfl rfl rfl rfl (op_move rfl) ?_
    refine TL_pure rfl rfl rfl rfl (op_move rfl) ?_
    refine TL_join 2 (fun _ : Unit => ⟨[(5, .bool r17), (6, .bool r20), (7, .bool (decide ((p0.Facts.length : Int) = (0 : Int)))), (8, .int .i64 (-1 : Int)), (32, .bool ((decide (p0.Var = (0 : Int))) && (decide (p0.Event = (0 : Int)))))], []⟩) (fun _ => True) (fun _ _ => ?_) (fun hjj => ?_)
    · refine TL_pure rfl rfl rfl rfl (op_move rfl) ?_
      refine TL_join 2 (fun _ : Unit => ⟨[(6, .bool r20), (7, .bool (decide ((p0.Facts.length : Int) = (0 : Int)))), (8, .int .i64 (-1 : Int)), (35, .bool (((decide (p0.Var = (0 : Int))) && (decide (p0.Event = (0 : Int)))) && r17))], []⟩) (fun _ => True) (fun _ _ => ?_) (fun hjj => ?_)
      · refine TL_pure rfl rfl rfl rfl (op_move rfl) ?_
        refine TL_join 2 (fun _ : Unit => ⟨[(7, .bool (decide ((p0.Facts.length : Int) = (0 : Int)))), (8, .int .i64 (-1 : Int)), (38, .bool ((((decide (p0.Var = (0 : Int))) && (decide (p0.Event = (0 : Int)))) && r17) && r20))], []⟩) (fun _ => True) (fun _ _ => ?_) (fun hjj => ?_)
        · refine TL_pure rfl rfl rfl rfl (op_move rfl) ?_
          refine TL_join 2 (fun _ : Unit => ⟨[(8, .int .i64 (-1 : Int)), (41, .bool (((((decide (p0.Var = (0 : Int))) && (decide (p0.Event = (0 : Int)))) && r17) && r20) && (decide ((p0.Facts.length : Int) = (0 : Int)))))], []⟩) (fun _ => True) (fun _ _ => ?_) (fun hjj => ?_)
          · refine TL_nil ?_
            refine T_cond rfl (fun hq => ?_) (fun hq => ?_)
            · replace hm := condT hq hm
              refine T_region ?_
              refine TL_pure rfl rfl rfl rfl (op_assign rfl) ?_
              refine TL_nil ?_
              refine T_seq ?_
              refine T_region ?_
              refine TL_pure rfl rfl rfl rfl (op_move rfl) ?_
              refine TL_pure rfl rfl rfl rfl (op_assign rfl) ?_
              refine TL_nil ?_
              refine T_keepH [2] [] rfl rfl rfl rfl (by rw [hF]; rfl) ?_
              refine T_ret ?_
              obtain rfl := someI hm
              refine ⟨[_], [], ⟨rfl, trivial⟩, ?_, rfl, rfl, rfl, rfl⟩
              rfl
            · replace hm := condF hq hm
              refine T_skip ?_
              refine T_seq ?_
              refine T_region ?_
              refine TL_pure rfl rfl rfl rfl (op_move rfl) ?_
              refine TL_pure rfl rfl rfl rfl (op_assign rfl) ?_
              refine TL_nil ?_
              refine T_keepH [2] [] rfl rfl rfl rfl (by rw [hF]; rfl) ?_
              refine T_ret ?_
              obtain rfl := someI hm
              refine ⟨[_], [], ⟨rfl, trivial⟩, ?_, rfl, rfl, rfl, rfl⟩
              rfl
          · refine TL_split 39 rfl rfl rfl (fun hq => ?_) (fun hq => ?_)
            · refine TL_want rfl rfl ?_
              refine TL_pure rfl rfl rfl rfl (op_move rfl) ?_
              refine TL_pure rfl rfl rfl rfl (op_pick_true rfl rfl) ?_
              refine TL_keepH [8, 41] [] rfl rfl rfl rfl (by rw [hF]; rfl) ?_
              exact TL_cast _ (by first | (rw [hq, Bool.true_and]; done) | (rw [hq]; rfl)) (hjj () trivial)
            · refine TL_pass rfl rfl rfl rfl rfl rfl rfl ?_
              refine TL_pure rfl rfl rfl rfl (op_pick_false rfl rfl) ?_
              refine TL_keepH [8, 41] [] rfl rfl rfl rfl (by rw [hF]; rfl) ?_
              exact TL_cast _ (by first | (rw [hq, Bool.false_and]; done) | (rw [hq]; rfl)) (hjj () trivial)
        · refine TL_split 36 rfl rfl rfl (fun hq => ?_) (fun hq => ?_)
          · refine TL_want rfl rfl ?_
            refine TL_pure rfl rfl rfl rfl (op_move rfl) ?_
            refine TL_pure rfl rfl rfl rfl (op_pick_true rfl rfl) ?_
            refine TL_keepH [7, 8, 38] [] rfl rfl rfl rfl (by rw [hF]; rfl) ?_
            exact TL_cast _ (by first | (rw [hq, Bool.true_and]; done) | (rw [hq]; rfl)) (hjj () trivial)
          · refine TL_pass rfl rfl rfl rfl rfl rfl rfl ?_
            refine TL_pure rfl rfl rfl rfl (op_pick_false rfl rfl) ?_
            refine TL_keepH [7, 8, 38] [] rfl rfl rfl rfl (by rw [hF]; rfl) ?_
            exact TL_cast _ (by first | (rw [hq, Bool.false_and]; done) | (rw [hq]; rfl)) (hjj () trivial)
      · refine TL_split 33 rfl rfl rfl (fun hq => ?_) (fun hq => ?_)
        · refine TL_want rfl rfl ?_
          refine TL_pure rfl rfl rfl rfl (op_move rfl) ?_
          refine TL_pure rfl rfl rfl rfl (op_pick_true rfl rfl) ?_
          refine TL_keepH [6, 7, 8, 35] [] rfl rfl rfl rfl (by rw [hF]; rfl) ?_
          exact TL_cast _ (by first | (rw [hq, Bool.true_and]; done) | (rw [hq]; rfl)) (hjj () trivial)
        · refine TL_pass rfl rfl rfl rfl rfl rfl rfl ?_
          refine TL_pure rfl rfl rfl rfl (op_pick_false rfl rfl) ?_
          refine TL_keepH [6, 7, 8, 35] [] rfl rfl rfl rfl (by rw [hF]; rfl) ?_
          exact TL_cast _ (by first | (rw [hq, Bool.false_and]; done) | (rw [hq]; rfl)) (hjj () trivial)
    · refine TL_split 30 rfl rfl rfl (fun hq => ?_) (fun hq => ?_)
      · refine TL_want rfl rfl ?_
        refine TL_pure rfl rfl rfl rfl (op_move rfl) ?_
        refine TL_pure rfl rfl rfl rfl (op_pick_true rfl rfl) ?_
        refine TL_keepH [5, 6, 7, 8, 32] [] rfl rfl rfl rfl (by rw [hF]; rfl) ?_
        exact TL_cast _ (by first | (rw [hq, Bool.true_and]; done) | (rw [hq]; rfl)) (hjj () trivial)
      · refine TL_pass rfl rfl rfl rfl rfl rfl rfl ?_
        refine TL_pure rfl rfl rfl rfl (op_pick_false rfl rfl) ?_
        refine TL_keepH [5, 6, 7, 8, 32] [] rfl rfl rfl rfl (by rw [hF]; rfl) ?_
        exact TL_cast _ (by first | (rw [hq, Bool.false_and]; done) | (rw [hq]; rfl)) (hjj () trivial)
  · replace hm := condF hq hm
    refine T_seq ?_
    refine T_region ?_
    refine TL_pure rfl rfl rfl rfl (op_eql rfl rfl) ?_
    refine TL_pure rfl rfl rfl rfl (op_assign rfl) ?_
    refine TL_nil ?_
    refine T_cond rfl (fun hq => ?_) (fun hq => ?_)
    · replace hm := condT hq hm
      refine T_seq ?_
      refine T_region ?_
      refine TL_pure rfl rfl rfl rfl (op_move rfl) ?_
      refine TL_pure rfl rfl rfl rfl (op_move rfl) ?_
      refine TL_join 2 (fun _ : Unit => ⟨[(5, .bool r17), (6, .bool r20), (7, .bool (decide ((p0.Facts.length : Int) = (0 : Int)))), (8, .int .i64 (-1 : Int)), (47, .bool ((decide (p0.Var = (0 : Int))) && (decide (p0.Event = (0 : Int)))))], []⟩) (fun _ => True) (fun _ _ => ?_) (fun hjj => ?_)
      · refine TL_pure rfl rfl rfl rfl (op_move rfl) ?_
        refine TL_join 2 (fun _ : Unit => ⟨[(6, .bool r20), (7, .bool (decide ((p0.Facts.length : Int) = (0 : Int)))), (8, .int .i64 (-1 : Int)), (50, .bool (((decide (p0.Var = (0 : Int))) && (decide (p0.Event = (0 : Int)))) && r17))], []⟩) (fun _ => True) (fun _ _ => ?_) (fun hjj => ?_)
        · refine TL_pure rfl rfl rfl rfl (op_move rfl) ?_
          refine TL_join 2 (fun _ : Unit => ⟨[(7, .bool (decide ((p0.Facts.length : Int) = (0 : Int)))), (8, .int .i64 (-1 : Int)), (53, .bool ((((decide (p0.Var = (0 : Int))) && (decide (p0.Event = (0 : Int)))) && r17) && r20))], []⟩) (fun _ => True) (fun _ _ => ?_) (fun hjj => ?_)
          · refine TL_pure rfl rfl rfl rfl (op_move rfl) ?_
            refine TL_join 2 (fun _ : Unit => ⟨[(8, .int .i64 (-1 : Int)), (56, .bool (((((decide (p0.Var = (0 : Int))) && (decide (p0.Event = (0 : Int)))) && r17) && r20) && (decide ((p0.Facts.length : Int) = (0 : Int)))))], []⟩) (fun _ => True) (fun _ _ => ?_) (fun hjj => ?_)
            · refine TL_nil ?_
              refine T_cond rfl (fun hq => ?_) (fun hq => ?_)
              · replace hm := condT hq hm
                refine T_region ?_
                refine TL_pure rfl rfl rfl rfl (op_assign rfl) ?_
                refine TL_nil ?_
                refine T_seq ?_
                refine T_region ?_
                refine TL_pure rfl rfl rfl rfl (op_move rfl) ?_
                refine TL_pure rfl rfl rfl rfl (op_assign rfl) ?_
                refine TL_nil ?_
                refine T_keepH [2] [] rfl rfl rfl rfl (by rw [hF]; rfl) ?_
                refine T_ret ?_
                obtain rfl := someI hm
                refine ⟨[_], [], ⟨rfl, trivial⟩, ?_, rfl, rfl, rfl, rfl⟩
                rfl
              · replace hm := condF hq hm
                refine T_skip ?_
                refine T_seq ?_
                refine T_region ?_
                refine TL_pure rfl rfl rfl rfl (op_move rfl) ?_
                refine TL_pure rfl rfl rfl rfl (op_assign rfl) ?_
                refine TL_nil ?_
                refine T_keepH [2] [] rfl rfl rfl rfl (by rw [hF]; rfl) ?_
                refine T_ret ?_
                obtain rfl := someI hm
                refine ⟨[_], [], ⟨rfl, trivial⟩, ?_, rfl, rfl, rfl, rfl⟩
                rfl
            · refine TL_split 54 rfl rfl rfl (fun hq => ?_) (fun hq => ?_)
              · refine TL_want rfl rfl ?_
                refine TL_pure rfl rfl rfl rfl (op_move rfl) ?_
                refine TL_pure rfl rfl rfl rfl (op_pick_true rfl rfl) ?_
                refine TL_keepH [8, 56] [] rfl rfl rfl rfl (by rw [hF]; rfl) ?_
                exact TL_cast _ (by first | (rw [hq, Bool.true_and]; done) | (rw [hq]; rfl)) (hjj () trivial)
              · refine TL_pass rfl rfl rfl rfl rfl rfl rfl ?_
                refine TL_pure rfl rfl rfl rfl (op_pick_false rfl rfl) ?_
                refine TL_keepH [8, 56] [] rfl rfl rfl rfl (by rw [hF]; rfl) ?_
                exact TL_cast _ (by first | (rw [hq, Bool.false_and]; done) | (rw [hq]; rfl)) (hjj () trivial)
          · refine TL_split 51 rfl rfl rfl (fun hq => ?_) (fun hq => ?_)
            · refine TL_want rfl rfl ?_
              refine TL_pure rfl rfl rfl rfl (op_move rfl) ?_
              refine TL_pure rfl rfl rfl rfl (op_pick_true rfl rfl) ?_
              refine TL_keepH [7, 8, 53] [] rfl rfl rfl rfl (by rw [hF]; rfl) ?_
              exact TL_cast _ (by first | (rw [hq, Bool.true_and]; done) | (rw [hq]; rfl)) (hjj () trivial)
            · refine TL_pass rfl rfl rfl rfl rfl rfl rfl ?_
              refine TL_pure rfl rfl rfl rfl (op_pick_false rfl rfl) ?_
              refine TL_keepH [7, 8, 53] [] rfl rfl rfl rfl (by rw [hF]; rfl) ?_
              exact TL_cast _ (by first | (rw [hq, Bool.false_and]; done) | (rw [hq]; rfl)) (hjj () trivial)
        · refine TL_split 48 rfl rfl rfl (fun hq => ?_) (fun hq => ?_)
          · refine TL_want rfl rfl ?_
            refine TL_pure rfl rfl rfl rfl (op_move rfl) ?_
            refine TL_pure rfl rfl rfl rfl (op_pick_true rfl rfl) ?_
            refine TL_keepH [6, 7, 8, 50] [] rfl rfl rfl rfl (by rw [hF]; rfl) ?_
            exact TL_cast _ (by first | (rw [hq, Bool.true_and]; done) | (rw [hq]; rfl)) (hjj () trivial)
          · refine TL_pass rfl rfl rfl rfl rfl rfl rfl ?_
            refine TL_pure rfl rfl rfl rfl (op_pick_false rfl rfl) ?_
            refine TL_keepH [6, 7, 8, 50] [] rfl rfl rfl rfl (by rw [hF]; rfl) ?_
            exact TL_cast _ (by first | (rw [hq, Bool.false_and]; done) | (rw [hq]; rfl)) (hjj () trivial)
      · refine TL_split 45 rfl rfl rfl (fun hq => ?_) (fun hq => ?_)
        · refine TL_want rfl rfl ?_
          refine TL_pure rfl rfl rfl rfl (op_move rfl) ?_
          refine TL_pure rfl rfl rfl rfl (op_pick_true rfl rfl) ?_
          refine TL_keepH [5, 6, 7, 8, 47] [] rfl rfl rfl rfl (by rw [hF]; rfl) ?_
          exact TL_cast _ (by first | (rw [hq, Bool.true_and]; done) | (rw [hq]; rfl)) (hjj () trivial)
        · refine TL_pass rfl rfl rfl rfl rfl rfl rfl ?_
          refine TL_pure rfl rfl rfl rfl (op_pick_false rfl rfl) ?_
          refine TL_keepH [5, 6, 7, 8, 47] [] rfl rfl rfl rfl (by rw [hF]; rfl) ?_
          exact TL_cast _ (by first | (rw [hq, Bool.false_and]; done) | (rw [hq]; rfl)) (hjj () trivial)
    · replace hm := condF hq hm
      refine T_seq ?_
      refine T_region ?_
      refine TL_pure rfl rfl rfl rfl (op_eql rfl rfl) ?_
      refine TL_pure rfl rfl rfl rfl (op_assign rfl) ?_
      refine TL_nil ?_
      refine T_cond rfl (fun hq => ?_) (fun hq => ?_)
      · replace hm := condT hq hm
        refine T_seq ?_
        refine T_region ?_
        refine TL_pure rfl rfl rfl rfl (op_fieldAddr fa77_1 rfl rfl) ?_
        refine TL_pure rfl rfl rfl rfl (op_load_one ag2 rfl rfl) ?_
        obtain ⟨r61, hr61, hm⟩ := bindS hm
        refine TL_callF (c_impl_isVar p0.Var r61 hr61) Try.call138 rfl rfl rfl rfl rfl ?_
        refine TL_pure rfl rfl rfl rfl (op_move rfl) ?_
        refine TL_join 2 (fun _ : Unit => ⟨[(1, .ptr 11 0 0), (6, .bool r20), (7, .bool (decide ((p0.Facts.length : Int) = (0 : Int)))), (8, .int .i64 (-1 : Int)), (64, .bool (r61 && (decide (p0.Event = (0 : Int)))))], [(11, .box [.int .i64 p0.Kind, .int .i64 p0.Var, .int .i64 p0.Event, .int .i64 p0.Sum.Const, .sl 1 (List.map a_i64 p0.Sum.Coeffs), .int .i64 p0.Index.Const, .sl 1 (List.map a_i64 p0.Index.Coeffs), .sl 2 (List.map a_Term p0.Facts)])]⟩) (fun _ => True) (fun _ _ => ?_) (fun hjj => ?_)
        · refine TL_pure rfl rfl rfl rfl (op_move rfl) ?_
          refine TL_split 65 rfl rfl rfl (fun hq => ?_) (fun hq => ?_)
          · replace hm := condT hq hm
            refine TL_want rfl rfl ?_
            refine TL_pure rfl rfl rfl rfl (op_fieldAddr fa77_3 rfl rfl) ?_
            refine TL_want rfl rfl ?_
            refine TL_pure rfl rfl rfl rfl (op_load_agg ag75 sz75 rfl rfl rfl) ?_
            refine TL_want rfl rfl ?_
            obtain ⟨r68, hr68, hm⟩ := bindS hm
            refine TL_callF (c_impl_isOver p0.Sum r68 hr68) Try.call90 rfl rfl rfl rfl rfl ?_
            refine TL_pure rfl rfl rfl rfl (op_pick_true rfl rfl) ?_
            refine TL_pure rfl rfl rfl rfl (op_move rfl) ?_
            refine TL_join 2 (fun _ : Unit => ⟨[(7, .bool (decide ((p0.Facts.length : Int) = (0 : Int)))), (8, .int .i64 (-1 : Int)), (72, .bool (r68 && r20))], []⟩) (fun _ => True) (fun _ _ => ?_) (fun hjj => ?_)
            · refine TL_pure rfl rfl rfl rfl (op_move rfl) ?_
              refine TL_join 2 (fun _ : Unit => ⟨[(8, .int .i64 (-1 : Int)), (75, .bool ((r68 && r20) && (decide ((p0.Facts.length : Int) = (0 : Int)))))], []⟩) (fun _ => True) (fun _ _ => ?_) (fun hjj => ?_)
              · refine TL_nil ?_
                refine T_cond rfl (fun hq => ?_) (fun hq => ?_)
                · replace hm := condT hq hm
                  refine T_region ?_
                  refine TL_pure rfl rfl rfl rfl (op_assign rfl) ?_
                  refine TL_nil ?_
                  refine T_seq ?_
                  refine T_region ?_
                  refine TL_pure rfl rfl rfl rfl (op_move rfl) ?_
                  refine TL_pure rfl rfl rfl rfl (op_assign rfl) ?_
                  refine TL_nil ?_
                  refine T_keepH [2] [] rfl rfl rfl rfl (by rw [hF]; rfl) ?_
                  refine T_ret ?_
                  obtain rfl := someI hm
                  refine ⟨[_], [], ⟨rfl, trivial⟩, ?_, rfl, rfl, rfl, rfl⟩
                  rfl
                · replace hm := condF hq hm
                  refine T_skip ?_
                  refine T_seq ?_
                  refine T_region ?_
                  refine TL_pure rfl rfl rfl rfl (op_move rfl) ?_
                  refine TL_pure rfl rfl rfl rfl (op_assign rfl) ?_
                  refine TL_nil ?_
                  refine T_keepH [2] [] rfl rfl rfl rfl (by rw [hF]; rfl) ?_
                  refine T_ret ?_
                  obtain rfl := someI hm
                  refine ⟨[_], [], ⟨rfl, trivial⟩, ?_, rfl, rfl, rfl, rfl⟩
                  rfl
              · refine TL_split 73 rfl rfl rfl (fun hq => ?_) (fun hq => ?_)
                · refine TL_want rfl rfl ?_
                  refine TL_pure rfl rfl rfl rfl (op_move rfl) ?_
                  refine TL_pure rfl rfl rfl rfl (op_pick_true rfl rfl) ?_
                  refine TL_keepH [8, 75] [] rfl rfl rfl rfl (by rw [hF]; rfl) ?_
                  exact TL_cast _ (by first | (rw [hq, Bool.true_and]; done) | (rw [hq]; rfl)) (hjj () trivial)
                · refine TL_pass rfl rfl rfl rfl rfl rfl rfl ?_
                  refine TL_pure rfl rfl rfl rfl (op_pick_false rfl rfl) ?_
                  refine TL_keepH [8, 75] [] rfl rfl rfl rfl (by rw [hF]; rfl) ?_
                  exact TL_cast _ (by first | (rw [hq, Bool.false_and]; done) | (rw [hq]; rfl)) (hjj () trivial)
            · refine TL_split 70 rfl rfl rfl (fun hq => ?_) (fun hq => ?_)
              · refine TL_want rfl rfl ?_
                refine TL_pure rfl rfl rfl rfl (op_move rfl) ?_
                refine TL_pure rfl rfl rfl rfl (op_pick_true rfl rfl) ?_
                refine TL_keepH [7, 8, 72] [] rfl rfl rfl rfl (by rw [hF]; rfl) ?_
                exact TL_cast _ (by first | (rw [hq, Bool.true_and]; done) | (rw [hq]; rfl)) (hjj () trivial)
              · refine TL_pass rfl rfl rfl rfl rfl rfl rfl ?_
                refine TL_pure rfl rfl rfl rfl (op_pick_false rfl rfl) ?_
                refine TL_keepH [7, 8, 72] [] rfl rfl rfl rfl (by rw [hF]; rfl) ?_
                exact TL_cast _ (by first | (rw [hq, Bool.false_and]; done) | (rw [hq]; rfl)) (hjj () trivial)
          · replace hm := condF hq hm
            refine TL_pass rfl rfl rfl rfl rfl rfl rfl ?_
            refine TL_pass rfl rfl rfl rfl rfl rfl rfl ?_
            refine TL_pass rfl rfl rfl rfl rfl rfl rfl ?_
            refine TL_pure rfl rfl rfl rfl (op_pick_false rfl rfl) ?_
            refine TL_pure rfl rfl rfl rfl (op_move rfl) ?_
            refine TL_pass rfl rfl rfl rfl rfl rfl rfl ?_
            refine TL_pure rfl rfl rfl rfl (op_pick_false rfl rfl) ?_
            refine TL_pure rfl rfl rfl rfl (op_move rfl) ?_
            refine TL_pass rfl rfl rfl rfl rfl rfl rfl ?_
            refine TL_pure rfl rfl rfl rfl (op_pick_false rfl rfl) ?_
            refine TL_nil ?_
            refine T_cond_false rfl ?_
            refine T_skip ?_
            refine T_seq ?_
            refine T_region ?_
            refine TL_pure rfl rfl rfl rfl (op_move rfl) ?_
            refine TL_pure rfl rfl rfl rfl (op_assign rfl) ?_
            refine TL_nil ?_
            refine T_keepH [2] [] rfl rfl rfl rfl (by rw [hF]; rfl) ?_
            refine T_ret ?_
            obtain rfl := someI hm
            refine ⟨[_], [], ⟨rfl, trivial⟩, ?_, rfl, rfl, rfl, rfl⟩
            rfl
        · refine TL_split 62 rfl rfl rfl (fun hq => ?_) (fun hq => ?_)
          · refine TL_want rfl rfl ?_
            refine TL_pure rfl rfl rfl rfl (op_move rfl) ?_
            refine TL_pure rfl rfl rfl rfl (op_pick_true rfl rfl) ?_
            refine TL_keepH [1, 6, 7, 8, 64] [11] rfl rfl rfl rfl (by rw [hF]; rfl) ?_
            exact TL_cast _ (by first | (rw [hq, Bool.true_and]; done) | (rw [hq]; rfl)) (hjj () trivial)
          · refine TL_pass rfl rfl rfl rfl rfl rfl rfl ?_
            refine TL_pure rfl rfl rfl rfl (op_pick_false rfl rfl) ?_
            refine TL_keepH [1, 6, 7, 8, 64] [11] rfl rfl rfl rfl (by rw [hF]; rfl) ?_
            exact TL_cast _ (by first | (rw [hq, Bool.false_and]; done) | (rw [hq]; rfl)) (hjj () trivial)
      · replace hm := condF hq hm
        refine T_seq ?_
        refine T_region ?_
        refine TL_pure rfl rfl rfl rfl (op_eql rfl rfl) ?_
        refine TL_pure rfl rfl rfl rfl (op_assign rfl) ?_
        refine TL_nil ?_
        refine T_cond rfl (fun hq => ?_) (fun hq => ?_)
        · replace hm := condT hq hm
          refine T_seq ?_
          refine T_region ?_
          refine TL_pure rfl rfl rfl rfl (op_fieldAddr fa77_1 rfl rfl) ?_
          refine TL_pure rfl rfl rfl rfl (op_load_one ag2 rfl rfl) ?_
          obtain ⟨r80, hr80, hm⟩ := bindS hm
          refine TL_callF (c_impl_isVar p0.Var r80 hr80) Try.call138 rfl rfl rfl rfl rfl ?_
          refine TL_pure rfl rfl rfl rfl (op_move rfl) ?_
          refine TL_join 2 (fun _ : Unit => ⟨[(1, .ptr 11 0 0), (5, .bool r17), (7, .bool (decide ((p0.Facts.length : Int) = (0 : Int)))), (8, .int .i64 (-1 : Int)), (83, .bool (r80 && (decide (p0.Event = (0 : Int)))))], [(11, .box [.int .i64 p0.Kind, .int .i64 p0.Var, .int .i64 p0.Event, .int .i64 p0.Sum.Const, .sl 1 (List.map a_i64 p0.Sum.Coeffs), .int .i64 p0.Index.Const, .sl 1 (List.map a_i64 p0.Index.Coeffs), .sl 2 (List.map a_Term p0.Facts)])]⟩) (fun _ => True) (fun _ _ => ?_) (fun hjj => ?_)
          · refine TL_pure rfl rfl rfl rfl (op_move rfl) ?_
            refine TL_join 2 (fun _ : Unit => ⟨[(1, .ptr 11 0 0), (7, .bool (decide ((p0.Facts.length : Int) = (0 : Int)))), (8, .int .i64 (-1 : Int)), (86, .bool ((r80 && (decide (p0.Event = (0 : Int)))) && r17))], [(11, .box [.int .i64 p0.Kind, .int .i64 p0.Var, .int .i64 p0.Event, .int .i64 p0.Sum.Const, .sl 1 (List.map a_i64 p0.Sum.Coeffs), .int .i64 p0.Index.Const, .sl 1 (List.map a_i64 p0.Index.Coeffs), .sl 2 (List.map a_Term p0.Facts)])]⟩) (fun _ => True) (fun _ _ => ?_) (fun hjj => ?_)
            · refine TL_pure rfl rfl rfl rfl (op_move rfl) ?_
              refine TL_split 87 rfl rfl rfl (fun hq => ?_) (fun hq => ?_)
              · replace hm := condT hq hm
                refine TL_want rfl rfl ?_
                refine TL_pure rfl rfl rfl rfl (op_fieldAddr fa77_4 rfl rfl) ?_
                refine TL_want rfl rfl ?_
                refine TL_pure rfl rfl rfl rfl (op_load_agg ag75 sz75 rfl rfl rfl) ?_
                refine TL_want rfl rfl ?_
                obtain ⟨r90, hr90, hm⟩ := bindS hm
                refine TL_callF (c_impl_isOver p0.Index r90 hr90) Try.call90 rfl rfl rfl rfl rfl ?_
                refine TL_pure rfl rfl rfl rfl (op_pick_true rfl rfl) ?_
                refine TL_pure rfl rfl rfl rfl (op_move rfl) ?_
                refine TL_join 2 (fun _ : Unit => ⟨[(8, .int .i64 (-1 : Int)), (94, .bool (r90 && (decide ((p0.Facts.length : Int) = (0 : Int)))))], []⟩) (fun _ => True) (fun _ _ => ?_) (fun hjj => ?_)
                · refine TL_nil ?_
                  refine T_cond rfl (fun hq => ?_) (fun hq => ?_)
                  · replace hm := condT hq hm
                    refine T_region ?_
                    refine TL_pure rfl rfl rfl rfl (op_assign rfl) ?_
                    refine TL_nil ?_
                    refine T_seq ?_
                    refine T_region ?_
                    refine TL_pure rfl rfl rfl rfl (op_move rfl) ?_
                    refine TL_pure rfl rfl rfl rfl (op_assign rfl) ?_
                    refine TL_nil ?_
                    refine T_keepH [2] [] rfl rfl rfl rfl (by rw [hF]; rfl) ?_
                    refine T_ret ?_
                    obtain rfl := someI hm
                    refine ⟨[_], [], ⟨rfl, trivial⟩, ?_, rfl, rfl, rfl, rfl⟩
                    rfl
                  · replace hm := condF hq hm
                    refine T_skip ?_
                    refine T_seq ?_
                    refine T_region ?_
                    refine TL_pure rfl rfl rfl rfl (op_move rfl) ?_
                    refine TL_pure rfl rfl rfl rfl (op_assign rfl) ?_
                    refine TL_nil ?_
                    refine T_keepH [2] [] rfl rfl rfl rfl (by rw [hF]; rfl) ?_
                    refine T_ret ?_
                    obtain rfl := someI hm
                    refine ⟨[_], [], ⟨rfl, trivial⟩, ?_, rfl, rfl, rfl, rfl⟩
                    rfl
                · refine TL_split 92 rfl rfl rfl (fun hq => ?_) (fun hq => ?_)
                  · refine TL_want rfl rfl ?_
                    refine TL_pure rfl rfl rfl rfl (op_move rfl) ?_
                    refine TL_pure rfl rfl rfl rfl (op_pick_true rfl rfl) ?_
                    refine TL_keepH [8, 94] [] rfl rfl rfl rfl (by rw [hF]; rfl) ?_
                    exact TL_cast _ (by first | (rw [hq, Bool.true_and]; done) | (rw [hq]; rfl)) (hjj () trivial)
                  · refine TL_pass rfl rfl rfl rfl rfl rfl rfl ?_
                    refine TL_pure rfl rfl rfl rfl (op_pick_false rfl rfl) ?_
                    refine TL_keepH [8, 94] [] rfl rfl rfl rfl (by rw [hF]; rfl) ?_
                    exact TL_cast _ (by first | (rw [hq, Bool.false_and]; done) | (rw [hq]; rfl)) (hjj () trivial)
              · replace hm := condF hq hm
                refine TL_pass rfl rfl rfl rfl rfl rfl rfl ?_
                refine TL_pass rfl rfl rfl rfl rfl rfl rfl ?_
                refine TL_pass rfl rfl rfl rfl rfl rfl rfl ?_
                refine TL_pure rfl rfl rfl rfl (op_pick_false rfl rfl) ?_
                refine TL_pure rfl rfl rfl rfl (op_move rfl) ?_
                refine TL_pass rfl rfl rfl rfl rfl rfl rfl ?_
                refine TL_pure rfl rfl rfl rfl (op_pick_false rfl rfl) ?_
                refine TL_nil ?_
                refine T_cond_false rfl ?_
                refine T_skip ?_
                refine T_seq ?_
                refine T_region ?_
                refine TL_pure rfl rfl rfl rfl (op_move rfl) ?_
                refine TL_pure rfl rfl rfl rfl (op_assign rfl) ?_
                refine TL_nil ?_
                refine T_keepH [2] [] rfl rfl rfl rfl (by rw [hF]; rfl) ?_
                refine T_ret ?_
                obtain rfl := someI hm
                refine ⟨[_], [], ⟨rfl, trivial⟩, ?_, rfl, rfl, rfl, rfl⟩
                rfl
            · refine TL_split 84 rfl rfl rfl (fun hq => ?_) (fun hq => ?_)
              · refine TL_want rfl rfl ?_
                refine TL_pure rfl rfl rfl rfl (op_move rfl) ?_
                refine TL_pure rfl rfl rfl rfl (op_pick_true rfl rfl) ?_
                refine TL_keepH [1, 7, 8, 86] [11] rfl rfl rfl rfl (by rw [hF]; rfl) ?_
                exact TL_cast _ (by first | (rw [hq, Bool.true_and]; done) | (rw [hq]; rfl)) (hjj () trivial)
              · refine TL_pass rfl rfl rfl rfl rfl rfl rfl ?_
                refine TL_pure rfl rfl rfl rfl (op_pick_false rfl rfl) ?_
                refine TL_keepH [1, 7, 8, 86] [11] rfl rfl rfl rfl (by rw [hF]; rfl) ?_
                exact TL_cast _ (by first | (rw [hq, Bool.false_and]; done) | (rw [hq]; rfl)) (hjj () trivial)
          · refine TL_split 81 rfl rfl rfl (fun hq => ?_) (fun hq => ?_)
            · refine TL_want rfl rfl ?_
              refine TL_pure rfl rfl rfl rfl (op_move rfl) ?_
              refine TL_pure rfl rfl rfl rfl (op_pick_true rfl rfl) ?_
              refine TL_keepH [1, 5, 7, 8, 83] [11] rfl rfl rfl rfl (by rw [hF]; rfl) ?_
              exact TL_cast _ (by first | (rw [hq, Bool.true_and]; done) | (rw [hq]; rfl)) (hjj () trivial)
            · refine TL_pass rfl rfl rfl rfl rfl rfl rfl ?_
              refine TL_pure rfl rfl rfl rfl (op_pick_false rfl rfl) ?_
              refine TL_keepH [1, 5, 7, 8, 83] [11] rfl rfl rfl rfl (by rw [hF]; rfl) ?_
              exact TL_cast _ (by first | (rw [hq, Bool.false_and]; done) | (rw [hq]; rfl)) (hjj () trivial)
        · replace hm := condF hq hm
          refine T_seq ?_
          refine T_region ?_
          refine TL_pure rfl rfl rfl rfl (op_eql rfl rfl) ?_
          refine TL_pure rfl rfl rfl rfl (op_assign rfl) ?_
          refine TL_nil ?_
          refine T_cond rfl (fun hq => ?_) (fun hq => ?_)
          · replace hm := condT hq hm
            refine T_seq ?_
            refine T_region ?_
            refine TL_pure rfl rfl rfl rfl (op_move rfl) ?_
            refine TL_pure rfl rfl rfl rfl (op_move rfl) ?_
            refine TL_join 2 (fun _ : Unit => ⟨[(1, .ptr 11 0 0), (7, .bool (decide ((p0.Facts.length : Int) = (0 : Int)))), (8, .int .i64 (-1 : Int)), (100, .bool ((decide (p0.Var = (0 : Int))) && (decide (p0.Event = (0 : Int)))))], [(11, .box [.int .i64 p0.Kind, .int .i64 p0.Var, .int .i64 p0.Event, .int .i64 p0.Sum.Const, .sl 1 (List.map a_i64 p0.Sum.Coeffs), .int .i64 p0.Index.Const, .sl 1 (List.map a_i64 p0.Index.Coeffs), .sl 2 (List.map a_Term p0.Facts)])]⟩) (fun _ => True) (fun _ _ => ?_) (fun hjj => ?_)
            · refine TL_pure rfl rfl rfl rfl (op_move rfl) ?_
              refine TL_split 101 rfl rfl rfl (fun hq => ?_) (fun hq => ?_)
              · replace hm := condT hq hm
                refine TL_want rfl rfl ?_
                refine TL_pure rfl rfl rfl rfl (op_fieldAddr fa77_3 rfl rfl) ?_
                refine TL_want rfl rfl ?_
                refine TL_pure rfl rfl rfl rfl (op_load_agg ag75 sz75 rfl rfl rfl) ?_
                refine TL_want rfl rfl ?_
                obtain ⟨r104, hr104, hm⟩ := bindS hm
                refine TL_callF (c_impl_isOver p0.Sum r104 hr104) Try.call90 rfl rfl rfl rfl rfl ?_
                refine TL_pure rfl rfl rfl rfl (op_pick_true rfl rfl) ?_
                refine TL_pure rfl rfl rfl rfl (op_move rfl) ?_
                refine TL_split 106 rfl rfl rfl (fun hq => ?_) (fun hq => ?_)
                · replace hm := condT hq hm
                  refine TL_want rfl rfl ?_
                  refine TL_pure rfl rfl rfl rfl (op_fieldAddr fa77_4 rfl rfl) ?_
                  refine TL_want rfl rfl ?_
                  refine TL_pure rfl rfl rfl rfl (op_load_agg ag75 sz75 rfl rfl rfl) ?_
                  refine TL_want rfl rfl ?_
                  obtain ⟨r109, hr109, hm⟩ := bindS hm
                  refine TL_callF (c_impl_isOver p0.Index r109 hr109) Try.call90 rfl rfl rfl rfl rfl ?_
                  refine TL_pure rfl rfl rfl rfl (op_pick_true rfl rfl) ?_
                  refine TL_pure rfl rfl rfl rfl (op_move rfl) ?_
                  refine TL_join 2 (fun _ : Unit => ⟨[(8, .int .i64 (-1 : Int)), (113, .bool (r109 && (decide ((p0.Facts.length : Int) = (0 : Int)))))], []⟩) (fun _ => True) (fun _ _ => ?_) (fun hjj => ?_)
                  · refine TL_nil ?_
                    refine T_cond rfl (fun hq => ?_) (fun hq => ?_)
                    · replace hm := condT hq hm
                      refine T_region ?_
                      refine TL_pure rfl rfl rfl rfl (op_assign rfl) ?_
                      refine TL_nil ?_
                      refine T_seq ?_
                      refine T_region ?_
                      refine TL_pure rfl rfl rfl rfl (op_move rfl) ?_
                      refine TL_pure rfl rfl rfl rfl (op_assign rfl) ?_
                      refine TL_nil ?_
                      refine T_keepH [2] [] rfl rfl rfl rfl (by rw [hF]; rfl) ?_
                      refine T_ret ?_
                      obtain rfl := someI hm
                      refine ⟨[_], [], ⟨rfl, trivial⟩, ?_, rfl, rfl, rfl, rfl⟩
                      rfl
                    · replace hm := condF hq hm
                      refine T_skip ?_
                      refine T_seq ?_
                      refine T_region ?_
                      refine TL_pure rfl rfl rfl rfl (op_move rfl) ?_
                      refine TL_pure rfl rfl rfl rfl (op_assign rfl) ?_
                      refine TL_nil ?_
                      refine T_keepH [2] [] rfl rfl rfl rfl (by rw [hF]; rfl) ?_
                      refine T_ret ?_
                      obtain rfl := someI hm
                      refine ⟨[_], [], ⟨rfl, trivial⟩, ?_, rfl, rfl, rfl, rfl⟩
                      rfl
                  · refine TL_split 111 rfl rfl rfl (fun hq => ?_) (fun hq => ?_)
                    · refine TL_want rfl rfl ?_
                      refine TL_pure rfl rfl rfl rfl (op_move rfl) ?_
                      refine TL_pure rfl rfl rfl rfl (op_pick_true rfl rfl) ?_
                      refine TL_keepH [8, 113] [] rfl rfl rfl rfl (by rw [hF]; rfl) ?_
                      exact TL_cast _ (by first | (rw [hq, Bool.true_and]; done) | (rw [hq]; rfl)) (hjj () trivial)
                    · refine TL_pass rfl rfl rfl rfl rfl rfl rfl ?_
                      refine TL_pure rfl rfl rfl rfl (op_pick_false rfl rfl) ?_
                      refine TL_keepH [8, 113] [] rfl rfl rfl rfl (by rw [hF]; rfl) ?_
                      exact TL_cast _ (by first | (rw [hq, Bool.false_and]; done) | (rw [hq]; rfl)) (hjj () trivial)
                · replace hm := condF hq hm
                  refine TL_pass rfl rfl rfl rfl rfl rfl rfl ?_
                  refine TL_pass rfl rfl rfl rfl rfl rfl rfl ?_
                  refine TL_pass rfl rfl rfl rfl rfl rfl rfl ?_
                  refine TL_pure rfl rfl rfl rfl (op_pick_false rfl rfl) ?_
                  refine TL_pure rfl rfl rfl rfl (op_move rfl) ?_
                  refine TL_pass rfl rfl rfl rfl rfl rfl rfl ?_
                  refine TL_pure rfl rfl rfl rfl (op_pick_false rfl rfl) ?_
                  refine TL_nil ?_
                  refine T_cond_false rfl ?_
                  refine T_skip ?_
                  refine T_seq ?_
                  refine T_region ?_
                  refine TL_pure rfl rfl rfl rfl (op_move rfl) ?_
                  refine TL_pure rfl rfl rfl rfl (op_assign rfl) ?_
                  refine TL_nil ?_
                  refine T_keepH [2] [] rfl rfl rfl rfl (by rw [hF]; rfl) ?_
                  refine T_ret ?_
                  obtain rfl := someI hm
                  refine ⟨[_], [], ⟨rfl, trivial⟩, ?_, rfl, rfl, rfl, rfl⟩
                  rfl
              · replace hm := condF hq hm
                refine TL_pass rfl rfl rfl rfl rfl rfl rfl ?_
                refine TL_pass rfl rfl rfl rfl rfl rfl rfl ?_
                refine TL_pass rfl rfl rfl rfl rfl rfl rfl ?_
                refine TL_pure rfl rfl rfl rfl (op_pick_false rfl rfl) ?_
                refine TL_pure rfl rfl rfl rfl (op_move rfl) ?_
                refine TL_pass rfl rfl rfl rfl rfl rfl rfl ?_
                refine TL_pass rfl rfl rfl rfl rfl rfl rfl ?_
                refine TL_pass rfl rfl rfl rfl rfl rfl rfl ?_
                refine TL_pure rfl rfl rfl rfl (op_pick_false rfl rfl) ?_
                refine TL_pure rfl rfl rfl rfl (op_move rfl) ?_
                refine TL_pass rfl rfl rfl rfl rfl rfl rfl ?_
                refine TL_pure rfl rfl rfl rfl (op_pick_false rfl rfl) ?_
                refine TL_nil ?_
                refine T_cond_false rfl ?_
                refine T_skip ?_
                refine T_seq ?_
                refine T_region ?_
                refine TL_pure rfl rfl rfl rfl (op_move rfl) ?_
                refine TL_pure rfl rfl rfl rfl (op_assign rfl) ?_
                refine TL_nil ?_
                refine T_keepH [2] [] rfl rfl rfl rfl (by rw [hF]; rfl) ?_
                refine T_ret ?_
                obtain rfl := someI hm
                refine ⟨[_], [], ⟨rfl, trivial⟩, ?_, rfl, rfl, rfl, rfl⟩
                rfl
            · refine TL_split 98 rfl rfl rfl (fun hq => ?_) (fun hq => ?_)
              · refine TL_want rfl rfl ?_
                refine TL_pure rfl rfl rfl rfl (op_move rfl) ?_
                refine TL_pure rfl rfl rfl rfl (op_pick_true rfl rfl) ?_
                refine TL_keepH [1, 7, 8, 100] [11] rfl rfl rfl rfl (by rw [hF]; rfl) ?_
                exact TL_cast _ (by first | (rw [hq, Bool.true_and]; done) | (rw [hq]; rfl)) (hjj () trivial)
              · refine TL_pass rfl rfl rfl rfl rfl rfl rfl ?_
                refine TL_pure rfl rfl rfl rfl (op_pick_false rfl rfl) ?_
                refine TL_keepH [1, 7, 8, 100] [11] rfl rfl rfl rfl (by rw [hF]; rfl) ?_
                exact TL_cast _ (by first | (rw [hq, Bool.false_and]; done) | (rw [hq]; rfl)) (hjj () trivial)
          · replace hm := condF hq hm
            refine T_seq ?_
            refine T_region ?_
            refine TL_pure rfl rfl rfl rfl (op_eql rfl rfl) ?_
            refine TL_pure rfl rfl rfl rfl (op_assign rfl) ?_
            refine TL_nil ?_
            refine T_cond rfl (fun hq => ?_) (fun hq => ?_)
            · replace hm := condT hq hm
              refine T_seq ?_
              refine T_region ?_
              refine TL_pure rfl rfl rfl rfl (op_move rfl) ?_
              refine TL_pure rfl rfl rfl rfl (op_move rfl) ?_
              refine TL_split 117 rfl rfl rfl (fun hq => ?_) (fun hq => ?_)
              · replace hm := condT hq hm
                refine TL_want rfl rfl ?_
                refine TL_pure rfl rfl rfl rfl (op_fieldAddr fa77_2 rfl rfl) ?_
                refine TL_want rfl rfl ?_
                refine TL_pure rfl rfl rfl rfl (op_load_one ag2 rfl rfl) ?_
                refine TL_want rfl rfl ?_
                obtain ⟨r120, hr120, hm⟩ := bindS hm
                refine TL_callF (c_impl_isEvent p0.Event r120 hr120) Try.call139 rfl rfl rfl rfl rfl ?_
                refine TL_pure rfl rfl rfl rfl (op_pick_true rfl rfl) ?_
                refine TL_pure rfl rfl rfl rfl (op_move rfl) ?_
                refine TL_join 2 (fun _ : Unit => ⟨[(6, .bool r20), (7, .bool (decide ((p0.Facts.length : Int) = (0 : Int)))), (8, .int .i64 (-1 : Int)), (124, .bool (r120 && r17))], []⟩) (fun _ => True) (fun _ _ => ?_) (fun hjj => ?_)
                · refine TL_pure rfl rfl rfl rfl (op_move rfl) ?_
                  refine TL_join 2 (fun _ : Unit => ⟨[(7, .bool (decide ((p0.Facts.length : Int) = (0 : Int)))), (8, .int .i64 (-1 : Int)), (127, .bool ((r120 && r17) && r20))], []⟩) (fun _ => True) (fun _ _ => ?_) (fun hjj => ?_)
                  · refine TL_pure rfl rfl rfl rfl (op_move rfl) ?_
                    refine TL_join 2 (fun _ : Unit => ⟨[(8, .int .i64 (-1 : Int)), (130, .bool (((r120 && r17) && r20) && (decide ((p0.Facts.length : Int) = (0 : Int)))))], []⟩) (fun _ => True) (fun _ _ => ?_) (fun hjj => ?_)
                    · refine TL_nil ?_
                      refine T_cond rfl (fun hq => ?_) (fun hq => ?_)
                      · replace hm := condT hq hm
                        refine T_region ?_
                        refine TL_pure rfl rfl rfl rfl (op_assign rfl) ?_
                        refine TL_nil ?_
                        refine T_seq ?_
                        refine T_region ?_
                        refine TL_pure rfl rfl rfl rfl (op_move rfl) ?_
                        refine TL_pure rfl rfl rfl rfl (op_assign rfl) ?_
                        refine TL_nil ?_
                        refine T_keepH [2] [] rfl rfl rfl rfl (by rw [hF]; rfl) ?_
                        refine T_ret ?_
                        obtain rfl := someI hm
                        refine ⟨[_], [], ⟨rfl, trivial⟩, ?_, rfl, rfl, rfl, rfl⟩
                        rfl
                      · replace hm := condF hq hm
                        refine T_skip ?_
                        refine T_seq ?_
                        refine T_region ?_
                        refine TL_pure rfl rfl rfl rfl (op_move rfl) ?_
                        refine TL_pure rfl rfl rfl rfl (op_assign rfl) ?_
                        refine TL_nil ?_
                        refine T_keepH [2] [] rfl rfl rfl rfl (by rw [hF]; rfl) ?_
                        refine T_ret ?_
                        obtain rfl := someI hm
                        refine ⟨[_], [], ⟨rfl, trivial⟩, ?_, rfl, rfl, rfl, rfl⟩
                        rfl
                    · refine TL_split 128 rfl rfl rfl (fun hq => ?_) (fun hq => ?_)
                      · refine TL_want rfl rfl ?_
                        refine TL_pure rfl rfl rfl rfl (op_move rfl) ?_
                        refine TL_pure rfl rfl rfl rfl (op_pick_true rfl rfl) ?_
                        refine TL_keepH [8, 130] [] rfl rfl rfl rfl (by rw [hF]; rfl) ?_
                        exact TL_cast _ (by first | (rw [hq, Bool.true_and]; done) | (rw [hq]; rfl)) (hjj () trivial)
                      · refine TL_pass rfl rfl rfl rfl rfl rfl rfl ?_
                        refine TL_pure rfl rfl rfl rfl (op_pick_false rfl rfl) ?_
                        refine TL_keepH [8, 130] [] rfl rfl rfl rfl (by rw [hF]; rfl) ?_
                        exact TL_cast _ (by first | (rw [hq, Bool.false_and]; done) | (rw [hq]; rfl)) (hjj () trivial)
                  · refine TL_split 125 rfl rfl rfl (fun hq => ?_) (fun hq => ?_)
                    · refine TL_want rfl rfl ?_
                      refine TL_pure rfl rfl rfl rfl (op_move rfl) ?_
                      refine TL_pure rfl rfl rfl rfl (op_pick_true rfl rfl) ?_
                      refine TL_keepH [7, 8, 127] [] rfl rfl rfl rfl (by rw [hF]; rfl) ?_
                      exact TL_cast _ (by first | (rw [hq, Bool.true_and]; done) | (rw [hq]; rfl)) (hjj () trivial)
                    · refine TL_pass rfl rfl rfl rfl rfl rfl rfl ?_
                      refine TL_pure rfl rfl rfl rfl (op_pick_false rfl rfl) ?_
                      refine TL_keepH [7, 8, 127] [] rfl rfl rfl rfl (by rw [hF]; rfl) ?_
                      exact TL_cast _ (by first | (rw [hq, Bool.false_and]; done) | (rw [hq]; rfl)) (hjj () trivial)
                · refine TL_split 122 rfl rfl rfl (fun hq => ?_) (fun hq => ?_)
                  · refine TL_want rfl rfl ?_
                    refine TL_pure rfl rfl rfl rfl (op_move rfl) ?_
                    refine TL_pure rfl rfl rfl rfl (op_pick_true rfl rfl) ?_
                    refine TL_keepH [6, 7, 8, 124] [] rfl rfl rfl rfl (by rw [hF]; rfl) ?_
                    exact TL_cast _ (by first | (rw [hq, Bool.true_and]; done) | (rw [hq]; rfl)) (hjj () trivial)
                  · refine TL_pass rfl rfl rfl rfl rfl rfl rfl ?_
                    refine TL_pure rfl rfl rfl rfl (op_pick_false rfl rfl) ?_
                    refine TL_keepH [6, 7, 8, 124] [] rfl rfl rfl rfl (by rw [hF]; rfl) ?_
                    exact TL_cast _ (by first | (rw [hq, Bool.false_and]; done) | (rw [hq]; rfl)) (hjj () trivial)
              · replace hm := condF hq hm
                refine TL_pass rfl rfl rfl rfl rfl rfl rfl ?_
                refine TL_pass rfl rfl rfl rfl rfl rfl rfl ?_
                refine TL_pass rfl rfl rfl rfl rfl rfl rfl ?_
                refine TL_pure rfl rfl rfl rfl (op_pick_false rfl rfl) ?_
                refine TL_pure rfl rfl rfl rfl (op_move rfl) ?_
                refine TL_pass rfl rfl rfl rfl rfl rfl rfl ?_
                refine TL_pure rfl rfl rfl rfl (op_pick_false rfl rfl) ?_
                refine TL_pure rfl rfl rfl rfl (op_move rfl) ?_
                refine TL_pass rfl rfl rfl rfl rfl rfl rfl ?_
                refine TL_pure rfl rfl rfl rfl (op_pick_false rfl rfl) ?_
                refine TL_pure rfl rfl rfl rfl (op_move rfl) ?_
                refine TL_pass rfl rfl rfl rfl rfl rfl rfl ?_
                refine TL_pure rfl rfl rfl rfl (op_pick_false rfl rfl) ?_
                refine TL_nil ?_
                refine T_cond_false rfl ?_
                refine T_skip ?_
                refine T_seq ?_
                refine T_region ?_
                refine TL_pure rfl rfl rfl rfl (op_move rfl) ?_
                refine TL_pure rfl rfl rfl rfl (op_assign rfl) ?_
                refine TL_nil ?_
                refine T_keepH [2] [] rfl rfl rfl rfl (by rw [hF]; rfl) ?_
                refine T_ret ?_
                obtain rfl := someI hm
                refine ⟨[_], [], ⟨rfl, trivial⟩, ?_, rfl, rfl, rfl, rfl⟩
                rfl
            · replace hm := condF hq hm
              refine T_seq ?_
              refine T_region ?_
              refine TL_pure rfl rfl rfl rfl (op_eql rfl rfl) ?_
              refine TL_pure rfl rfl rfl rfl (op_assign rfl) ?_
              refine TL_nil ?_
              refine T_cond rfl (fun hq => ?_) (fun hq => ?_)
              · replace hm := condT hq hm
                refine T_seq ?_
                refine T_region ?_
                refine TL_pure rfl rfl rfl rfl (op_move rfl) ?_
                refine TL_pure rfl rfl rfl rfl (op_move rfl) ?_
                refine TL_join 2 (fun _ : Unit => ⟨[(1, .ptr 11 0 0), (6, .bool r20), (7, .bool (decide ((p0.Facts.length : Int) = (0 : Int)))), (8, .int .i64 (-1 : Int)), (136, .bool ((decide (p0.Var = (0 : Int))) && (decide (p0.Event = (0 : Int)))))], [(11, .box [.int .i64 p0.Kind, .int .i64 p0.Var, .int .i64 p0.Event, .int .i64 p0.Sum.Const, .sl 1 (List.map a_i64 p0.Sum.Coeffs), .int .i64 p0.Index.Const, .sl 1 (List.map a_i64 p0.Index.Coeffs), .sl 2 (List.map a_Term p0.Facts)])]⟩) (fun _ => True) (fun _ _ => ?_) (fun hjj => ?_)
                · refine TL_pure rfl rfl rfl rfl (op_move rfl) ?_
                  refine TL_split 137 rfl rfl rfl (fun hq => ?_) (fun hq => ?_)
                  · replace hm := condT hq hm
                    refine TL_want rfl rfl ?_
                    refine TL_pure rfl rfl rfl rfl (op_fieldAddr fa77_3 rfl rfl) ?_
                    refine TL_want rfl rfl ?_
                    refine TL_pure rfl rfl rfl rfl (op_load_agg ag75 sz75 rfl rfl rfl) ?_
                    refine TL_want rfl rfl ?_
                    obtain ⟨r140, hr140, hm⟩ := bindS hm
                    refine TL_callF (c_impl_isOver p0.Sum r140 hr140) Try.call90 rfl rfl rfl rfl rfl ?_
                    refine TL_pure rfl rfl rfl rfl (op_pick_true rfl rfl) ?_
                    refine TL_pure rfl rfl rfl rfl (op_move rfl) ?_
                    refine TL_join 2 (fun _ : Unit => ⟨[(7, .bool (decide ((p0.Facts.length : Int) = (0 : Int)))), (8, .int .i64 (-1 : Int)), (144, .bool (r140 && r20))], []⟩) (fun _ => True) (fun _ _ => ?_) (fun hjj => ?_)
                    · refine TL_pure rfl rfl rfl rfl (op_move rfl) ?_
                      refine TL_join 2 (fun _ : Unit => ⟨[(8, .int .i64 (-1 : Int)), (147, .bool ((r140 && r20) && (decide ((p0.Facts.length : Int) = (0 : Int)))))], []⟩) (fun _ => True) (fun _ _ => ?_) (fun hjj => ?_)
                      · refine TL_nil ?_
                        refine T_cond rfl (fun hq => ?_) (fun hq => ?_)
                        · replace hm := condT hq hm
                          refine T_region ?_
                          refine TL_pure rfl rfl rfl rfl (op_assign rfl) ?_
                          refine TL_nil ?_
                          refine T_seq ?_
                          refine T_region ?_
                          refine TL_pure rfl rfl rfl rfl (op_move rfl) ?_
                          refine TL_pure rfl rfl rfl rfl (op_assign rfl) ?_
                          refine TL_nil ?_
                          refine T_keepH [2] [] rfl rfl rfl rfl (by rw [hF]; rfl) ?_
                          refine T_ret ?_
                          obtain rfl := someI hm
                          refine ⟨[_], [], ⟨rfl, trivial⟩, ?_, rfl, rfl, rfl, rfl⟩
                          rfl
                        · replace hm := condF hq hm
                          refine T_skip ?_
                          refine T_seq ?_
                          refine T_region ?_
                          refine TL_pure rfl rfl rfl rfl (op_move rfl) ?_
                          refine TL_pure rfl rfl rfl rfl (op_assign rfl) ?_
                          refine TL_nil ?_
                          refine T_keepH [2] [] rfl rfl rfl rfl (by rw [hF]; rfl) ?_
                          refine T_ret ?_
                          obtain rfl := someI hm
                          refine ⟨[_], [], ⟨rfl, trivial⟩, ?_, rfl, rfl, rfl, rfl⟩
                          rfl
                      · refine TL_split 145 rfl rfl rfl (fun hq => ?_) (fun hq => ?_)
                        · refine TL_want rfl rfl ?_
                          refine TL_pure rfl rfl rfl rfl (op_move rfl) ?_
                          refine TL_pure rfl rfl rfl rfl (op_pick_true rfl rfl) ?_
                          refine TL_keepH [8, 147] [] rfl rfl rfl rfl (by rw [hF]; rfl) ?_
                          exact TL_cast _ (by first | (rw [hq, Bool.true_and]; done) | (rw [hq]; rfl)) (hjj () trivial)
                        · refine TL_pass rfl rfl rfl rfl rfl rfl rfl ?_
                          refine TL_pure rfl rfl rfl rfl (op_pick_false rfl rfl) ?_
                          refine TL_keepH [8, 147] [] rfl rfl rfl rfl (by rw [hF]; rfl) ?_
                          exact TL_cast _ (by first | (rw [hq, Bool.false_and]; done) | (rw [hq]; rfl)) (hjj () trivial)
                    · refine TL_split 142 rfl rfl rfl (fun hq => ?_) (fun hq => ?_)
                      · refine TL_want rfl rfl ?_
                        refine TL_pure rfl rfl rfl rfl (op_move rfl) ?_
                        refine TL_pure rfl rfl rfl rfl (op_pick_true rfl rfl) ?_
                        refine TL_keepH [7, 8, 144] [] rfl rfl rfl rfl (by rw [hF]; rfl) ?_
                        exact TL_cast _ (by first | (rw [hq, Bool.true_and]; done) | (rw [hq]; rfl)) (hjj () trivial)
                      · refine TL_pass rfl rfl rfl rfl rfl rfl rfl ?_
                        refine TL_pure rfl rfl rfl rfl (op_pick_false rfl rfl) ?_
                        refine TL_keepH [7, 8, 144] [] rfl rfl rfl rfl (by rw [hF]; rfl) ?_
                        exact TL_cast _ (by first | (rw [hq, Bool.false_and]; done) | (rw [hq]; rfl)) (hjj () trivial)
                  · replace hm := condF hq hm
                    refine TL_pass rfl rfl rfl rfl rfl rfl rfl ?_
                    refine TL_pass rfl rfl rfl rfl rfl rfl rfl ?_
                    refine TL_pass rfl rfl rfl rfl rfl rfl rfl ?_
                    refine TL_pure rfl rfl rfl rfl (op_pick_false rfl rfl) ?_
                    refine TL_pure rfl rfl rfl rfl (op_move rfl) ?_
                    refine TL_pass rfl rfl rfl rfl rfl rfl rfl ?_
                    refine TL_pure rfl rfl rfl rfl (op_pick_false rfl rfl) ?_
                    refine TL_pure rfl rfl rfl rfl (op_move rfl) ?_
                    refine TL_pass rfl rfl rfl rfl rfl rfl rfl ?_
                    refine TL_pure rfl rfl rfl rfl (op_pick_false rfl rfl) ?_
                    refine TL_nil ?_
                    refine T_cond_false rfl ?_
                    refine T_skip ?_
                    refine T_seq ?_
                    refine T_region ?_
                    refine TL_pure rfl rfl rfl rfl (op_move rfl) ?_
                    refine TL_pure rfl rfl rfl rfl (op_assign rfl) ?_
                    refine TL_nil ?_
                    refine T_keepH [2] [] rfl rfl rfl rfl (by rw [hF]; rfl) ?_
                    refine T_ret ?_
                    obtain rfl := someI hm
                    refine ⟨[_], [], ⟨rfl, trivial⟩, ?_, rfl, rfl, rfl, rfl⟩
                    rfl
                · refine TL_split 134 rfl rfl rfl (fun hq => ?_) (fun hq => ?_)
                  · refine TL_want rfl rfl ?_
                    refine TL_pure rfl rfl rfl rfl (op_move rfl) ?_
                    refine TL_pure rfl rfl rfl rfl (op_pick_true rfl rfl) ?_
                    refine TL_keepH [1, 6, 7, 8, 136] [11] rfl rfl rfl rfl (by rw [hF]; rfl) ?_
                    exact TL_cast _ (by first | (rw [hq, Bool.true_and]; done) | (rw [hq]; rfl)) (hjj () trivial)
                  · refine TL_pass rfl rfl rfl rfl rfl rfl rfl ?_
                    refine TL_pure rfl rfl rfl rfl (op_pick_false rfl rfl) ?_
                    refine TL_keepH [1, 6, 7, 8, 136] [11] rfl rfl rfl rfl (by rw [hF]; rfl) ?_
                    exact TL_cast _ (by first | (rw [hq, Bool.false_and]; done) | (rw [hq]; rfl)) (hjj () trivial)
              · replace hm := condF hq hm
                refine T_seq ?_
                refine T_region ?_
                refine TL_pure rfl rfl rfl rfl (op_eql rfl rfl) ?_
                refine TL_pure rfl rfl rfl rfl (op_assign rfl) ?_
                refine TL_nil ?_
                refine T_cond rfl (fun hq => ?_) (fun hq => ?_)
                · replace hm := condT hq hm
                  refine T_seq ?_
                  refine T_region ?_
                  refine TL_pure rfl rfl rfl rfl (op_move rfl) ?_
                  refine TL_pure rfl rfl rfl rfl (op_move rfl) ?_
                  refine TL_join 2 (fun _ : Unit => ⟨[(1, .ptr 11 0 0), (6, .bool r20), (7, .bool (decide ((p0.Facts.length : Int) = (0 : Int)))), (8, .int .i64 (-1 : Int)), (153, .bool ((decide (p0.Var = (0 : Int))) && (decide (p0.Event = (0 : Int)))))], [(11, .box [.int .i64 p0.Kind, .int .i64 p0.Var, .int .i64 p0.Event, .int .i64 p0.Sum.Const, .sl 1 (List.map a_i64 p0.Sum.Coeffs), .int .i64 p0.Index.Const, .sl 1 (List.map a_i64 p0.Index.Coeffs), .sl 2 (List.map a_Term p0.Facts)])]⟩) (fun _ => True) (fun _ _ => ?_) (fun hjj => ?_)
                  · refine TL_pure rfl rfl rfl rfl (op_move rfl) ?_
                    refine TL_split 154 rfl rfl rfl (fun hq => ?_) (fun hq => ?_)
                    · replace hm := condT hq hm
                      refine TL_want rfl rfl ?_
                      refine TL_pure rfl rfl rfl rfl (op_fieldAddr fa77_3 rfl rfl) ?_
                      refine TL_want rfl rfl ?_
                      refine TL_pure rfl rfl rfl rfl (op_load_agg ag75 sz75 rfl rfl rfl) ?_
                      refine TL_want rfl rfl ?_
                      obtain ⟨r157, hr157, hm⟩ := bindS hm
                      refine TL_callF (c_impl_isOver p0.Sum r157 hr157) Try.call90 rfl rfl rfl rfl rfl ?_
                      refine TL_pure rfl rfl rfl rfl (op_pick_true rfl rfl) ?_
                      refine TL_pure rfl rfl rfl rfl (op_move rfl) ?_
                      refine TL_join 2 (fun _ : Unit => ⟨[(7, .bool (decide ((p0.Facts.length : Int) = (0 : Int)))), (8, .int .i64 (-1 : Int)), (161, .bool (r157 && r20))], []⟩) (fun _ => True) (fun _ _ => ?_) (fun hjj => ?_)
                      · refine TL_pure rfl rfl rfl rfl (op_move rfl) ?_
                        refine TL_join 2 (fun _ : Unit => ⟨[(8, .int .i64 (-1 : Int)), (164, .bool ((r157 && r20) && (decide ((p0.Facts.length : Int) = (0 : Int)))))], []⟩) (fun _ => True) (fun _ _ => ?_) (fun hjj => ?_)
                        · refine TL_nil ?_
                          refine T_cond rfl (fun hq => ?_) (fun hq => ?_)
                          · replace hm := condT hq hm
                            refine T_region ?_
                            refine TL_pure rfl rfl rfl rfl (op_assign rfl) ?_
                            refine TL_nil ?_
                            refine T_seq ?_
                            refine T_region ?_
                            refine TL_pure rfl rfl rfl rfl (op_move rfl) ?_
                            refine TL_pure rfl rfl rfl rfl (op_assign rfl) ?_
                            refine TL_nil ?_
                            refine T_keepH [2] [] rfl rfl rfl rfl (by rw [hF]; rfl) ?_
                            refine T_ret ?_
                            obtain rfl := someI hm
                            refine ⟨[_], [], ⟨rfl, trivial⟩, ?_, rfl, rfl, rfl, rfl⟩
                            rfl
                          · replace hm := condF hq hm
                            refine T_skip ?_
                            refine T_seq ?_
                            refine T_region ?_
                            refine TL_pure rfl rfl rfl rfl (op_move rfl) ?_
                            refine TL_pure rfl rfl rfl rfl (op_assign rfl) ?_
                            refine TL_nil ?_
                            refine T_keepH [2] [] rfl rfl rfl rfl (by rw [hF]; rfl) ?_
                            refine T_ret ?_
                            obtain rfl := someI hm
                            refine ⟨[_], [], ⟨rfl, trivial⟩, ?_, rfl, rfl, rfl, rfl⟩
                            rfl
                        · refine TL_split 162 rfl rfl rfl (fun hq => ?_) (fun hq => ?_)
                          · refine TL_want rfl rfl ?_
                            refine TL_pure rfl rfl rfl rfl (op_move rfl) ?_
                            refine TL_pure rfl rfl rfl rfl (op_pick_true rfl rfl) ?_
                            refine TL_keepH [8, 164] [] rfl rfl rfl rfl (by rw [hF]; rfl) ?_
                            exact TL_cast _ (by first | (rw [hq, Bool.true_and]; done) | (rw [hq]; rfl)) (hjj () trivial)
                          · refine TL_pass rfl rfl rfl rfl rfl rfl rfl ?_
                            refine TL_pure rfl rfl rfl rfl (op_pick_false rfl rfl) ?_
                            refine TL_keepH [8, 164] [] rfl rfl rfl rfl (by rw [hF]; rfl) ?_
                            exact TL_cast _ (by first | (rw [hq, Bool.false_and]; done) | (rw [hq]; rfl)) (hjj () trivial)
                      · refine TL_split 159 rfl rfl rfl (fun hq => ?_) (fun hq => ?_)
                        · refine TL_want rfl rfl ?_
                          refine TL_pure rfl rfl rfl rfl (op_move rfl) ?_
                          refine TL_pure rfl rfl rfl rfl (op_pick_true rfl rfl) ?_
                          refine TL_keepH [7, 8, 161] [] rfl rfl rfl rfl (by rw [hF]; rfl) ?_
                          exact TL_cast _ (by first | (rw [hq, Bool.true_and]; done) | (rw [hq]; rfl)) (hjj () trivial)
                        · refine TL_pass rfl rfl rfl rfl rfl rfl rfl ?_
                          refine TL_pure rfl rfl rfl rfl (op_pick_false rfl rfl) ?_
                          refine TL_keepH [7, 8, 161] [] rfl rfl rfl rfl (by rw [hF]; rfl) ?_
                          exact TL_cast _ (by first | (rw [hq, Bool.false_and]; done) | (rw [hq]; rfl)) (hjj () trivial)
                    · replace hm := condF hq hm
                      refine TL_pass rfl rfl rfl rfl rfl rfl rfl ?_
                      refine TL_pass rfl rfl rfl rfl rfl rfl rfl ?_
                      refine TL_pass rfl rfl rfl rfl rfl rfl rfl ?_
                      refine TL_pure rfl rfl rfl rfl (op_pick_false rfl rfl) ?_
                      refine TL_pure rfl rfl rfl rfl (op_move rfl) ?_
                      refine TL_pass rfl rfl rfl rfl rfl rfl rfl ?_
                      refine TL_pure rfl rfl rfl rfl (op_pick_false rfl rfl) ?_
                      refine TL_pure rfl rfl rfl rfl (op_move rfl) ?_
                      refine TL_pass rfl rfl rfl rfl rfl rfl rfl ?_
                      refine TL_pure rfl rfl rfl rfl (op_pick_false rfl rfl) ?_
                      refine TL_nil ?_
                      refine T_cond_false rfl ?_
                      refine T_skip ?_
                      refine T_seq ?_
                      refine T_region ?_
                      refine TL_pure rfl rfl rfl rfl (op_move rfl) ?_
                      refine TL_pure rfl rfl rfl rfl (op_assign rfl) ?_
                      refine TL_nil ?_
                      refine T_keepH [2] [] rfl rfl rfl rfl (by rw [hF]; rfl) ?_
                      refine T_ret ?_
                      obtain rfl := someI hm
                      refine ⟨[_], [], ⟨rfl, trivial⟩, ?_, rfl, rfl, rfl, rfl⟩
                      rfl
                  · refine TL_split 151 rfl rfl rfl (fun hq => ?_) (fun hq => ?_)
                    · refine TL_want rfl rfl ?_
                      refine TL_pure rfl rfl rfl rfl (op_move rfl) ?_
                      refine TL_pure rfl rfl rfl rfl (op_pick_true rfl rfl) ?_
                      refine TL_keepH [1, 6, 7, 8, 153] [11] rfl rfl rfl rfl (by rw [hF]; rfl) ?_
                      exact TL_cast _ (by first | (rw [hq, Bool.true_and]; done) | (rw [hq]; rfl)) (hjj () trivial)
                    · refine TL_pass rfl rfl rfl rfl rfl rfl rfl ?_
                      refine TL_pure rfl rfl rfl rfl (op_pick_false rfl rfl) ?_
                      refine TL_keepH [1, 6, 7, 8, 153] [11] rfl rfl rfl rfl (by rw [hF]; rfl) ?_
                      exact TL_cast _ (by first | (rw [hq, Bool.false_and]; done) | (rw [hq]; rfl)) (hjj () trivial)
                · replace hm := condF hq hm
                  refine T_seq ?_
                  refine T_region ?_
                  refine TL_pure rfl rfl rfl rfl (op_eql rfl rfl) ?_
                  refine TL_pure rfl rfl rfl rfl (op_assign rfl) ?_
                  refine TL_nil ?_
                  refine T_cond rfl (fun hq => ?_) (fun hq => ?_)
                  · replace hm := condT hq hm
                    refine T_seq ?_
                    refine T_region ?_
                    refine TL_pure rfl rfl rfl rfl (op_move rfl) ?_
                    refine TL_pure rfl rfl rfl rfl (op_move rfl) ?_
                    refine TL_join 2 (fun _ : Unit => ⟨[(1, .ptr 11 0 0), (6, .bool r20), (8, .int .i64 (-1 : Int)), (170, .bool ((decide (p0.Var = (0 : Int))) && (decide (p0.Event = (0 : Int)))))], [(11, .box [.int .i64 p0.Kind, .int .i64 p0.Var, .int .i64 p0.Event, .int .i64 p0.Sum.Const, .sl 1 (List.map a_i64 p0.Sum.Coeffs), .int .i64 p0.Index.Const, .sl 1 (List.map a_i64 p0.Index.Coeffs), .sl 2 (List.map a_Term p0.Facts)])]⟩) (fun _ => True) (fun _ _ => ?_) (fun hjj => ?_)
                    · refine TL_pure rfl rfl rfl rfl (op_move rfl) ?_
                      refine TL_split 171 rfl rfl rfl (fun hq => ?_) (fun hq => ?_)
                      · replace hm := condT hq hm
                        refine TL_want rfl rfl ?_
                        refine TL_pure rfl rfl rfl rfl (op_fieldAddr fa77_3 rfl rfl) ?_
                        refine TL_want rfl rfl ?_
                        refine TL_pure rfl rfl rfl rfl (op_load_agg ag75 sz75 rfl rfl rfl) ?_
                        refine TL_want rfl rfl ?_
                        obtain ⟨r174, hr174, hm⟩ := bindS hm
                        refine TL_callF (c_impl_isOver p0.Sum r174 hr174) Try.call90 rfl rfl rfl rfl rfl ?_
                        refine TL_pure rfl rfl rfl rfl (op_pick_true rfl rfl) ?_
                        refine TL_pure rfl rfl rfl rfl (op_move rfl) ?_
                        refine TL_join 2 (fun _ : Unit => ⟨[(1, .ptr 11 0 0), (8, .int .i64 (-1 : Int)), (178, .bool (r174 && r20))], [(11, .box [.int .i64 p0.Kind, .int .i64 p0.Var, .int .i64 p0.Event, .int .i64 p0.Sum.Const, .sl 1 (List.map a_i64 p0.Sum.Coeffs), .int .i64 p0.Index.Const, .sl 1 (List.map a_i64 p0.Index.Coeffs), .sl 2 (List.map a_Term p0.Facts)])]⟩) (fun _ => True) (fun _ _ => ?_) (fun hjj => ?_)
                        · refine TL_pure rfl rfl rfl rfl (op_move rfl) ?_
                          refine TL_split 179 rfl rfl rfl (fun hq => ?_) (fun hq => ?_)
                          · replace hm := condT hq hm
                            refine TL_want rfl rfl ?_
                            refine TL_pure rfl rfl rfl rfl (op_fieldAddr fa77_5 rfl rfl) ?_
                            refine TL_want rfl rfl ?_
                            refine TL_pure rfl rfl rfl rfl (op_load_one ag24 rfl rfl) ?_
                            refine TL_want rfl rfl ?_
                            obtain ⟨r182, hr182, hm⟩ := bindS hm
                            refine TL_callF (c_impl_areOver p0.Facts (6 : Int) r182 hr182) Try.call49 rfl rfl rfl rfl rfl ?_
                            refine TL_pure rfl rfl rfl rfl (op_pick_true rfl rfl) ?_
                            refine TL_nil ?_
                            refine T_cond rfl (fun hq => ?_) (fun hq => ?_)
                            · replace hm := condT hq hm
                              refine T_region ?_
                              refine TL_pure rfl rfl rfl rfl (op_assign rfl) ?_
                              refine TL_nil ?_
                              refine T_seq ?_
                              refine T_region ?_
                              refine TL_pure rfl rfl rfl rfl (op_move rfl) ?_
                              refine TL_pure rfl rfl rfl rfl (op_assign rfl) ?_
                              refine TL_nil ?_
                              refine T_keepH [2] [] rfl rfl rfl rfl (by rw [hF]; rfl) ?_
                              refine T_ret ?_
                              obtain rfl := someI hm
                              refine ⟨[_], [], ⟨rfl, trivial⟩, ?_, rfl, rfl, rfl, rfl⟩
                              rfl
                            · replace hm := condF hq hm
                              refine T_skip ?_
                              refine T_seq ?_
                              refine T_region ?_
                              refine TL_pure rfl rfl rfl rfl (op_move rfl) ?_
                              refine TL_pure rfl rfl rfl rfl (op_assign rfl) ?_
                              refine TL_nil ?_
                              refine T_keepH [2] [] rfl rfl rfl rfl (by rw [hF]; rfl) ?_
                              refine T_ret ?_
                              obtain rfl := someI hm
                              refine ⟨[_], [], ⟨rfl, trivial⟩, ?_, rfl, rfl, rfl, rfl⟩
                              rfl
                          · replace hm := condF hq hm
                            refine TL_pass rfl rfl rfl rfl rfl rfl rfl ?_
                            refine TL_pass rfl rfl rfl rfl rfl rfl rfl ?_
                            refine TL_pass rfl rfl rfl rfl rfl rfl rfl ?_
                            refine TL_pure rfl rfl rfl rfl (op_pick_false rfl rfl) ?_
                            refine TL_nil ?_
                            refine T_cond_false rfl ?_
                            refine T_skip ?_
                            refine T_seq ?_
                            refine T_region ?_
                            refine TL_pure rfl rfl rfl rfl (op_move rfl) ?_
                            refine TL_pure rfl rfl rfl rfl (op_assign rfl) ?_
                            refine TL_nil ?_
                            refine T_keepH [2] [] rfl rfl rfl rfl (by rw [hF]; rfl) ?_
                            refine T_ret ?_
                            obtain rfl := someI hm
                            refine ⟨[_], [], ⟨rfl, trivial⟩, ?_, rfl, rfl, rfl, rfl⟩
                            rfl
                        · refine TL_split 176 rfl rfl rfl (fun hq => ?_) (fun hq => ?_)
                          · refine TL_want rfl rfl ?_
                            refine TL_pure rfl rfl rfl rfl (op_move rfl) ?_
                            refine TL_pure rfl rfl rfl rfl (op_pick_true rfl rfl) ?_
                            refine TL_keepH [1, 8, 178] [11] rfl rfl rfl rfl (by rw [hF]; rfl) ?_
                            exact TL_cast _ (by first | (rw [hq, Bool.true_and]; done) | (rw [hq]; rfl)) (hjj () trivial)
                          · refine TL_pass rfl rfl rfl rfl rfl rfl rfl ?_
                            refine TL_pure rfl rfl rfl rfl (op_pick_false rfl rfl) ?_
                            refine TL_keepH [1, 8, 178] [11] rfl rfl rfl rfl (by rw [hF]; rfl) ?_
                            exact TL_cast _ (by first | (rw [hq, Bool.false_and]; done) | (rw [hq]; rfl)) (hjj () trivial)
                      · replace hm := condF hq hm
                        refine TL_pass rfl rfl rfl rfl rfl rfl rfl ?_
                        refine TL_pass rfl rfl rfl rfl rfl rfl rfl ?_
                        refine TL_pass rfl rfl rfl rfl rfl rfl rfl ?_
                        refine TL_pure rfl rfl rfl rfl (op_pick_false rfl rfl) ?_
                        refine TL_pure rfl rfl rfl rfl (op_move rfl) ?_
                        refine TL_pass rfl rfl rfl rfl rfl rfl rfl ?_
                        refine TL_pure rfl rfl rfl rfl (op_pick_false rfl rfl) ?_
                        refine TL_pure rfl rfl rfl rfl (op_move rfl) ?_
                        refine TL_pass rfl rfl rfl rfl rfl rfl rfl ?_
                        refine TL_pass rfl rfl rfl rfl rfl rfl rfl ?_
                        refine TL_pass rfl rfl rfl rfl rfl rfl rfl ?_
                        refine TL_pure rfl rfl rfl rfl (op_pick_false rfl rfl) ?_
                        refine TL_nil ?_
                        refine T_cond_false rfl ?_
                        refine T_skip ?_
                        refine T_seq ?_
                        refine T_region ?_
                        refine TL_pure rfl rfl rfl rfl (op_move rfl) ?_
                        refine TL_pure rfl rfl rfl rfl (op_assign rfl) ?_
                        refine TL_nil ?_
                        refine T_keepH [2] [] rfl rfl rfl rfl (by rw [hF]; rfl) ?_
                        refine T_ret ?_
                        obtain rfl := someI hm
                        refine ⟨[_], [], ⟨rfl, trivial⟩, ?_, rfl, rfl, rfl, rfl⟩
                        rfl
                    · refine TL_split 168 rfl rfl rfl (fun hq => ?_) (fun hq => ?_)
                      · refine TL_want rfl rfl ?_
                        refine TL_pure rfl rfl rfl rfl (op_move rfl) ?_
                        refine TL_pure rfl rfl rfl rfl (op_pick_true rfl rfl) ?_
                        refine TL_keepH [1, 6, 8, 170] [11] rfl rfl rfl rfl (by rw [hF]; rfl) ?_
                        exact TL_cast _ (by first | (rw [hq, Bool.true_and]; done) | (rw [hq]; rfl)) (hjj () trivial)
                      · refine TL_pass rfl rfl rfl rfl rfl rfl rfl ?_
                        refine TL_pure rfl rfl rfl rfl (op_pick_false rfl rfl) ?_
                        refine TL_keepH [1, 6, 8, 170] [11] rfl rfl rfl rfl (by rw [hF]; rfl) ?_
                        exact TL_cast _ (by first | (rw [hq, Bool.false_and]; done) | (rw [hq]; rfl)) (hjj () trivial)
                  · replace hm := condF hq hm
                    refine T_skip ?_
                    refine T_seq ?_
                    refine T_region ?_
                    refine TL_pure rfl rfl rfl rfl (op_move rfl) ?_
                    refine TL_pure rfl rfl rfl rfl (op_assign rfl) ?_
                    refine TL_nil ?_
                    refine T_keepH [2] [] rfl rfl rfl rfl (by rw [hF]; rfl) ?_
                    refine T_ret ?_
                    obtain rfl := someI hm
                    refine ⟨[_], [], ⟨rfl, trivial⟩, ?_, rfl, rfl, rfl, rfl⟩
                    rfl
theorem c_impl_treeAt_F (rec_impl_treeAt : (List Stmt) → Int → Option (Ptree × Int × Bool)) (hrec_impl_treeAt : ∀ (p0 : List Stmt) (p1 : Int) (out : Ptree × Int × Bool), rec_impl_treeAt p0 p1 = some out → ACall Try.prog 98 [.sl 8 (List.map a_Stmt p0), .int .i64 p1] [] (.tup [a_Ptree out.1, .int .i64 out.2.1, .bool out.2.2]) []) (p0 : List Stmt) (p1 : Int) (out : Ptree × Int × Bool) (hm : m_impl_treeAt_F rec_impl_treeAt p0 p1 = some out) : ACall Try.prog 98 [.sl 8 (List.map a_Stmt p0), .int .i64 p1] [] (.tup [a_Ptree out.1, .int .i64 out.2.1, .bool out.2.2]) [] := by
  refine ACall.intro Try.func98 rfl Try.ntmps98 rfl (fun F hF => ?_)
  unfold m_impl_treeAt_F at hm
  refine T_seq ?_
  refine T_region ?_
  refine TL_pure rfl rfl rfl rfl (op_assign rfl) ?_
  refine TL_pure rfl rfl rfl rfl (op_assign rfl) ?_
  refine TL_pure rfl rfl rfl rfl (op_assign rfl) ?_
  refine TL_nil ?_
  refine T_seq ?_
  refine T_seq ?_
  refine T_region ?_
  refine TL_pure rfl rfl rfl rfl (op_move rfl) ?_
  refine TL_pure rfl rfl rfl rfl (op_move rfl) ?_
  refine TL_pure rfl rfl rfl rfl (op_lenT Try.underlying25 rfl (List.length_map _)) ?_
  refine TL_fact (fun _ _ _ hr => RelP.slLen (i := 13) rfl hr) (fun hlen14 => ?_)
  rw [List.length_map] at hlen14
  refine TL_pure rfl rfl rfl rfl (op_geq rfl rfl) ?_
  refine TL_nil ?_
  refine T_cond rfl (fun hq => ?_) (fun hq => ?_)
  · replace hm := condT hq hm
    refine T_seq ?_
    refine T_region ?_
    refine TL_pure rfl rfl rfl rfl (op_assign rfl) ?_
    refine TL_pure rfl rfl rfl rfl (op_assign rfl) ?_
    refine TL_pure rfl rfl rfl rfl (op_assign rfl) ?_
    refine TL_nil ?_
    refine T_trAt 4 (x' := a_Ptree (.nil : Ptree)) rfl (TrR_nil) rfl ?_
    refine T_keepH [4, 5, 6] [] rfl rfl rfl rfl (by rw [hF]; rfl) ?_
    refine T_ret ?_
    obtain rfl := someI hm
    refine ⟨[_, _, _], [], ⟨rfl, rfl, rfl, trivial⟩, ?_, rfl, rfl, rfl, rfl⟩
    rfl
  · replace hm := condF hq hm
    refine T_skip ?_
    refine T_seq ?_
    refine T_region ?_
    refine TL_pure rfl rfl rfl rfl (op_move rfl) ?_
    refine TL_pure rfl rfl rfl rfl (op_move rfl) ?_
    obtain ⟨x18, hx18, hm⟩ := bindS hm
    refine TL_pure rfl rfl rfl rfl (op_indexT el25 rfl rfl hx18 rfl) ?_
    refine TL_pure rfl rfl rfl rfl (op_load_agg ag77 sz77 rfl rfl rfl) ?_
    obtain ⟨r20, hr20, hm⟩ := bindS hm
    refine TL_callF (c_impl_kidsOf x18 r20 hr20) Try.call125 rfl rfl rfl rfl rfl ?_
    refine TL_pure rfl rfl rfl rfl (op_assign rfl) ?_
    refine TL_nil ?_
    refine T_seq ?_
    refine T_seq ?_
    refine T_region ?_
    refine TL_pure rfl rfl rfl rfl (op_move rfl) ?_
    refine TL_pure rfl rfl rfl rfl (op_lss rfl rfl) ?_
    refine TL_nil ?_
    refine T_cond rfl (fun hq => ?_) (fun hq => ?_)
    · replace hm := condT hq hm
      refine T_seq ?_
      refine T_region ?_
      refine TL_pure rfl rfl rfl rfl (op_assign rfl) ?_
      refine TL_pure rfl rfl rfl rfl (op_assign rfl) ?_
      refine TL_pure rfl rfl rfl rfl (op_assign rfl) ?_
      refine TL_nil ?_
      refine T_trAt 4 (x' := a_Ptree (.nil : Ptree)) rfl (TrR_nil) rfl ?_
      refine T_keepH [4, 5, 6] [] rfl rfl rfl rfl (by rw [hF]; rfl) ?_
      refine T_ret ?_
      obtain rfl := someI hm
      refine ⟨[_, _, _], [], ⟨rfl, rfl, rfl, trivial⟩, ?_, rfl, rfl, rfl, rfl⟩
      rfl
    · replace hm := condF hq hm
      refine T_skip ?_
      refine T_seq ?_
      refine T_region ?_
      refine TL_pure rfl rfl rfl rfl (op_move rfl) ?_
      refine TL_pure rfl rfl rfl rfl (op_move rfl) ?_
      refine TL_pure rfl rfl rfl rfl (op_indexT el25 rfl rfl hx18 rfl) ?_
      refine TL_pure rfl rfl rfl rfl (op_load_agg ag77 sz77 rfl rfl rfl) ?_
      refine TL_pure rfl rfl rfl rfl (op_move rfl) ?_
      refine TL_pure rfl rfl rfl rfl (op_buildP pl132 z132 rfl rfl rfl rfl rfl) ?_
      refine TL_box 11 rfl rfl rfl rfl rfl rfl rfl ?_
      refine TL_pure rfl rfl rfl rfl (op_assign rfl) ?_
      refine TL_nil ?_
      refine T_seq ?_
      refine T_region ?_
      refine TL_pure rfl rfl rfl rfl (op_move rfl) ?_
      refine TL_pure rfl rfl rfl rfl (op_addW rfl rfl) ?_
      refine TL_pure rfl rfl rfl rfl (op_assign rfl) ?_
      refine TL_nil ?_
      refine T_seq ?_
      refine T_block ?_
      refine T_ownNilBox 11 9 16 ⟨false, false⟩ 88 rfl rfl rfl (sz := 1) rfl rfl rfl rfl ?_
      refine T_keepH [0, 1, 7, 8] [11, 16] rfl rfl rfl rfl (by rw [hF]; rfl) ?_
      refine T_ren [(11, 11), (16, 70001)] rfl rfl rfl (by rw [hF]; rfl) ?_
      refine T_loop ?_
      obtain ⟨u0, hl0, hm⟩ := bindS hm
      refine TR_iter2 (m_impl_treeAt_F_L0 rec_impl_treeAt p0) (fun (s0 : Int × Int × (List Ptree)) => ⟨[(0, .sl 8 (List.map a_Stmt p0)), (1, .int .i64 s0.1), (7, .int .i64 s0.2.1), (8, .ptr 11 0 0)], [(11, .box [.int .i64 x18.Kind, .int .i64 x18.Var, .int .i64 x18.Event, .int .i64 x18.Sum.Const, .sl 1 (List.map a_i64 x18.Sum.Coeffs), .int .i64 x18.Index.Const, .sl 1 (List.map a_i64 x18.Index.Coeffs), .sl 2 (List.map a_Term x18.Facts), .int .i64 p1, .ow 70001]), (70001, .arr ⟨false, false⟩ 1 88 (List.map a_Ptree s0.2.2))]⟩) (fun u0 => match u0 with | .inl u0 => .exit 0 | .inr u0 => .ret) (fun u0 => match u0 with | .inl u0 => ⟨[(1, .int .i64 u0.1), (8, .ptr 11 0 0)], [(11, .box [.int .i64 x18.Kind, .int .i64 x18.Var, .int .i64 x18.Event, .int .i64 x18.Sum.Const, .sl 1 (List.map a_i64 x18.Sum.Coeffs), .int .i64 x18.Index.Const, .sl 1 (List.map a_i64 x18.Index.Coeffs), .sl 2 (List.map a_Term x18.Facts), .int .i64 p1, .ow 70001]), (70001, .arr ⟨false, false⟩ 1 88 (List.map a_Ptree u0.2))]⟩ | .inr u0 => ⟨[(4, a_Ptree u0.1), (5, .int .i64 u0.2.1), (6, .bool u0.2.2)], []⟩) (fun u0 => m_impl_treeAt_F_A0 p1 x18 u0 = some out) hl0 hm (fun u0 hm => ?_) (fun hx0 s0 c0 hm hc0 => ?_)
      · rcases u0 with u0 | u0
        · unfold m_impl_treeAt_F_A0 at hm
          refine T_seq ?_
          refine T_region ?_
          refine TL_pure rfl rfl rfl rfl (op_move rfl) ?_
          refine TL_pure rfl rfl rfl rfl (op_move rfl) ?_
          refine TL_pure rfl rfl rfl rfl (op_assign rfl) ?_
          refine TL_pure rfl rfl rfl rfl (op_assign rfl) ?_
          refine TL_pure rfl rfl rfl rfl (op_assign rfl) ?_
          refine TL_nil ?_
          refine T_freeze 70001 (by rw [hF]; rfl) rfl rfl rfl ?_
          refine T_freezeB 11 (by rw [hF]; rfl) rfl rfl rfl rfl ?_
          refine T_trAt 4 (x' := a_Ptree (re_tree (tree.mk x18 p1 u0.2))) rfl (TrR_fold (re_tree_eq (tree.mk x18 p1 u0.2))) rfl ?_
          refine T_keepH [4, 5, 6] [] rfl rfl rfl rfl (by rw [hF]; rfl) ?_
          refine T_ret ?_
          obtain rfl := someI hm
          refine ⟨[_, _, _], [], ⟨rfl, rfl, rfl, trivial⟩, ?_, rfl, rfl, rfl, rfl⟩
          rfl
        · unfold m_impl_treeAt_F_A0 at hm
          obtain rfl := someI hm
          refine ⟨[_, _, _], [], ⟨rfl, rfl, rfl, trivial⟩, ?_, rfl, rfl, rfl, rfl⟩
          rfl
      · unfold m_impl_treeAt_F_L0 at hm
        refine T_seq ?_
        refine T_seq ?_
        refine T_region ?_
        refine TL_pure rfl rfl rfl rfl (op_move rfl) ?_
        refine TL_pure rfl rfl rfl rfl (op_gtr rfl rfl) ?_
        refine TL_nil ?_
        refine T_cond rfl (fun hq => ?_) (fun hq => ?_)
        · replace hm := condT hq hm
          refine T_skip ?_
          refine T_seq ?_
          refine T_block ?_
          refine T_seq ?_
          refine T_region ?_
          refine TL_pure rfl rfl rfl rfl (op_move rfl) ?_
          refine TL_pure rfl rfl rfl rfl (op_move rfl) ?_
          obtain ⟨r39, hr39, hm⟩ := bindS hm
          refine TL_callT (hrec_impl_treeAt p0 s0.1 r39 hr39) Try.call98 rfl rfl rfl rfl rfl ?_
          refine TL_pure rfl rfl rfl rfl (op_move rfl) ?_
          refine TL_pure rfl rfl rfl rfl (op_extract rfl rfl) ?_
          refine TL_pure rfl rfl rfl rfl (op_extract rfl rfl) ?_
          refine TL_pure rfl rfl rfl rfl (op_extract rfl rfl) ?_
          refine TL_pure rfl rfl rfl rfl (op_assign rfl) ?_
          refine TL_pure rfl rfl rfl rfl (op_assign rfl) ?_
          refine TL_pure rfl rfl rfl rfl (op_assign rfl) ?_
          refine TL_nil ?_
          refine T_seq ?_
          refine T_seq ?_
          refine T_region ?_
          refine TL_pure rfl rfl rfl rfl (op_move rfl) ?_
          refine TL_pure rfl rfl rfl rfl (op_not rfl) ?_
          refine TL_nil ?_
          refine T_cond rfl (fun hq => ?_) (fun hq => ?_)
          · replace hm := condT hq hm
            refine T_seq ?_
            refine T_region ?_
            refine TL_pure rfl rfl rfl rfl (op_assign rfl) ?_
            refine TL_pure rfl rfl rfl rfl (op_assign rfl) ?_
            refine TL_pure rfl rfl rfl rfl (op_assign rfl) ?_
            refine TL_nil ?_
            refine T_trAt 4 (x' := a_Ptree (.nil : Ptree)) rfl (TrR_nil) rfl ?_
            refine T_keepH [4, 5, 6] [] rfl rfl rfl rfl (by rw [hF]; rfl) ?_
            refine T_ret ?_
            obtain rfl := someI hm
            have hn := CtlOK_out hc0
            exact hx0 (.inr ((.nil : Ptree), (0 : Int), false)) hn
          · replace hm := condF hq hm
            refine T_skip ?_
            refine T_seq ?_
            refine T_region ?_
            refine TL_pure rfl rfl rfl rfl (op_move rfl) ?_
            refine TL_pure rfl rfl rfl rfl (op_move rfl) ?_
            refine TL_pure rfl rfl rfl rfl (op_nilCheck rfl rfl) ?_
            refine TL_pure rfl rfl rfl rfl (op_fieldAddr fa132_2 rfl rfl) ?_
            refine TL_pure rfl rfl rfl rfl (op_load_one ag129 rfl rfl) ?_
            refine TL_pure rfl rfl rfl rfl (op_move rfl) ?_
            refine TL_buildSlice 15 (es := List.map a_Ptree [r39.1]) el129 z88 rfl rfl rfl rfl rfl rfl rfl rfl rfl ?_
            obtain ⟨q52, hq52, hm⟩ := bindS hm
            refine TL_appendT (f := a_Ptree) (a := s0.2.2) (b := [r39.1]) el129 z88 rfl rfl rfl rfl rfl rfl rfl (capI_spec hq52) rfl rfl rfl rfl rfl ?_
            refine TL_pure rfl rfl rfl rfl (op_nilCheck rfl rfl) ?_
            refine TL_pure rfl rfl rfl rfl (op_fieldAddr fa132_2 rfl rfl) ?_
            refine TL_store_box sz129 rfl rfl rfl rfl rfl rfl rfl rfl rfl ?_
            refine TL_nil ?_
            refine T_region ?_
            refine TL_pure rfl rfl rfl rfl (op_move rfl) ?_
            refine TL_pure rfl rfl rfl rfl (op_assign rfl) ?_
            refine TL_nil ?_
            refine T_region ?_
            refine TL_pure rfl rfl rfl rfl (op_move rfl) ?_
            refine TL_pure rfl rfl rfl rfl (op_subW rfl rfl) ?_
            refine TL_pure rfl rfl rfl rfl (op_assign rfl) ?_
            refine TL_nil ?_
            refine TR_keepH [0, 1, 7, 8] [11, 70001] rfl rfl rfl rfl (by rw [hF]; rfl) ?_
            obtain rfl := someI hm
            have hn := CtlOK_next hc0
            exact hn _ rfl
        · replace hm := condF hq hm
          refine T_keepH [1, 8] [11, 70001] rfl rfl rfl rfl (by rw [hF]; rfl) ?_
          refine T_exit ?_
          obtain rfl := someI hm
          have hn := CtlOK_out hc0
          exact hx0 (.inl (s0.1, s0.2.2)) hn
theorem c_impl_treeAt : ∀ (n : Nat) (p0 : List Stmt) (p1 : Int) (out : Ptree × Int × Bool), m_impl_treeAt n p0 p1 = some out → ACall Try.prog 98 [.sl 8 (List.map a_Stmt p0), .int .i64 p1] [] (.tup [a_Ptree out.1, .int .i64 out.2.1, .bool out.2.2]) [] := by
  intro n
  induction n with
  | zero => intro p0 p1 out hm; cases hm
  | succ n ih => intro p0 p1 out hm; exact c_impl_treeAt_F (m_impl_treeAt n) ih p0 p1 out hm
theorem c_impl_treeOf (p0 : List Stmt) (out : Ptree × Bool) (hm : m_impl_treeOf p0 = some out) : ACall Try.prog 55 [.sl 8 (List.map a_Stmt p0)] [] (.tup [a_Ptree out.1, .bool out.2]) [] := by
  refine ACall.intro Try.func55 rfl Try.ntmps55 rfl (fun F hF => ?_)
  unfold m_impl_treeOf at hm
  refine T_seq ?_
  refine T_region ?_
  refine TL_pure rfl rfl rfl rfl (op_assign rfl) ?_
  refine TL_pure rfl rfl rfl rfl (op_assign rfl) ?_
  refine TL_nil ?_
  refine T_seq ?_
  refine T_seq ?_
  refine T_region ?_
  refine TL_pure rfl rfl rfl rfl (op_move rfl) ?_
  refine TL_pure rfl rfl rfl rfl (op_lenT Try.underlying25 rfl (List.length_map _)) ?_
  refine TL_fact (fun _ _ _ hr => RelP.slLen (i := 7) rfl hr) (fun hlen8 => ?_)
  rw [List.length_map] at hlen8
  refine TL_pure rfl rfl rfl rfl (op_gtr rfl rfl) ?_
  refine TL_nil ?_
  refine T_cond rfl (fun hq => ?_) (fun hq => ?_)
  · replace hm := condT hq hm
    refine T_seq ?_
    refine T_region ?_
    refine TL_pure rfl rfl rfl rfl (op_assign rfl) ?_
    refine TL_pure rfl rfl rfl rfl (op_assign rfl) ?_
    refine TL_nil ?_
    refine T_trAt 2 (x' := a_Ptree (.nil : Ptree)) rfl (TrR_nil) rfl ?_
    refine T_keepH [2, 3] [] rfl rfl rfl rfl (by rw [hF]; rfl) ?_
    refine T_ret ?_
    obtain rfl := someI hm
    refine ⟨[_, _], [], ⟨rfl, rfl, trivial⟩, ?_, rfl, rfl, rfl, rfl⟩
    rfl
  · replace hm := condF hq hm
    refine T_skip ?_
    refine T_seq ?_
    refine T_region ?_
    refine TL_pure rfl rfl rfl rfl (op_move rfl) ?_
    obtain ⟨r12, hr12, hm⟩ := bindS hm
    refine TL_callT (c_impl_treeAt 1000 p0 (0 : Int) r12 hr12) Try.call98 rfl rfl rfl rfl rfl ?_
    refine TL_pure rfl rfl rfl rfl (op_move rfl) ?_
    refine TL_pure rfl rfl rfl rfl (op_extract rfl rfl) ?_
    refine TL_pure rfl rfl rfl rfl (op_extract rfl rfl) ?_
    refine TL_pure rfl rfl rfl rfl (op_extract rfl rfl) ?_
    refine TL_pure rfl rfl rfl rfl (op_assign rfl) ?_
    refine TL_pure rfl rfl rfl rfl (op_assign rfl) ?_
    refine TL_pure rfl rfl rfl rfl (op_assign rfl) ?_
    refine TL_nil ?_
    refine T_seq ?_
    refine T_region ?_
    refine TL_pure rfl rfl rfl rfl (op_move rfl) ?_
    refine TL_pure rfl rfl rfl rfl (op_move rfl) ?_
    refine TL_pure rfl rfl rfl rfl (op_move rfl) ?_
    refine TL_join 5 (fun _ : Unit => ⟨[(16, a_Ptree r12.1), (23, .bool (r12.2.2 && (decide (r12.2.1 = (p0.length : Int)))))], []⟩) (fun _ => True) (fun _ _ => ?_) (fun hjj => ?_)
    · refine TL_pure rfl rfl rfl rfl (op_assign rfl) ?_
      refine TL_pure rfl rfl rfl rfl (op_assign rfl) ?_
      refine TL_nil ?_
      refine T_keepH [2, 3] [] rfl rfl rfl rfl (by rw [hF]; rfl) ?_
      refine T_ret ?_
      obtain rfl := someI hm
      refine ⟨[_, _], [], ⟨rfl, rfl, trivial⟩, ?_, rfl, rfl, rfl, rfl⟩
      rfl
    · refine TL_split 18 rfl rfl rfl (fun hq => ?_) (fun hq => ?_)
      · refine TL_want rfl rfl ?_
        refine TL_pure rfl rfl rfl rfl (op_move rfl) ?_
        refine TL_want rfl rfl ?_
        refine TL_pure rfl rfl rfl rfl (op_move rfl) ?_
        refine TL_want rfl rfl ?_
        refine TL_pure rfl rfl rfl rfl (op_lenT Try.underlying25 rfl (List.length_map _)) ?_
        refine TL_want rfl rfl ?_
        refine TL_pure rfl rfl rfl rfl (op_eql rfl rfl) ?_
        refine TL_pure rfl rfl rfl rfl (op_pick_true rfl rfl) ?_
        refine TL_keepH [16, 23] [] rfl rfl rfl rfl (by rw [hF]; rfl) ?_
        exact TL_cast _ (by first | (rw [hq, Bool.true_and]; done) | (rw [hq]; rfl)) (hjj () trivial)
      · refine TL_pass rfl rfl rfl rfl rfl rfl rfl ?_
        refine TL_pass rfl rfl rfl rfl rfl rfl rfl ?_
        refine TL_pass rfl rfl rfl rfl rfl rfl rfl ?_
        refine TL_pass rfl rfl rfl rfl rfl rfl rfl ?_
        refine TL_pure rfl rfl rfl rfl (op_pick_false rfl rfl) ?_
        refine TL_keepH [16, 23] [] rfl rfl rfl rfl (by rw [hF]; rfl) ?_
        exact TL_cast _ (by first | (rw [hq, Bool.false_and]; done) | (rw [hq]; rfl)) (hjj () trivial)
theorem c_impl_tree_parts_F (rec_impl_tree_parts : Ptree → Option (List Ptree)) (hrec_impl_tree_parts : ∀ (p0 : Ptree) (out : List Ptree), rec_impl_tree_parts p0 = some out → ACall Try.prog 99 [a_Ptree p0] [] (.ow 1000) [(1000, .arr ⟨false, false⟩ 1 88 (List.map a_Ptree out))]) (p0 : Ptree) (out : List Ptree) (hm : m_impl_tree_parts_F rec_impl_tree_parts p0 = some out) : ACall Try.prog 99 [a_Ptree p0] [] (.ow 1000) [(1000, .arr ⟨false, false⟩ 1 88 (List.map a_Ptree out))] := by
  refine ACall.intro Try.func99 rfl Try.ntmps99 rfl (fun F hF => ?_)
  unfold m_impl_tree_parts_F at hm
  refine T_seq ?_
  refine T_region ?_
  refine TL_pure rfl rfl rfl rfl (op_assign rfl) ?_
  refine TL_nil ?_
  refine T_seq ?_
  refine T_seq ?_
  refine T_region ?_
  refine TL_pure rfl rfl rfl rfl (op_move rfl) ?_
  obtain ⟨o3, ho3, hm⟩ := bindS hm
  refine TL_trAt 3 (x' := .cp [.int .i64 o3.Stmt.Kind, .int .i64 o3.Stmt.Var, .int .i64 o3.Stmt.Event, .int .i64 o3.Stmt.Sum.Const, .sl 1 (List.map a_i64 o3.Stmt.Sum.Coeffs), .int .i64 o3.Stmt.Index.Const, .sl 1 (List.map a_i64 o3.Stmt.Index.Coeffs), .sl 2 (List.map a_Term o3.Stmt.Facts), .int .i64 o3.at_, .sl 1 (List.map a_Ptree o3.kids)]) rfl (TrR_open (un_tree_eq ho3)) rfl ?_
  refine TL_pure rfl rfl rfl rfl (op_nilCheck rfl rfl) ?_
  refine TL_pure rfl rfl rfl rfl (op_fieldAddrC (n := 8) fa132_0 rfl rfl rfl) ?_
  refine TL_pure rfl rfl rfl rfl (op_fieldAddrC (n := 1) fa77_0 rfl rfl rfl) ?_
  refine TL_pure rfl rfl rfl rfl (op_load_one ag2 rfl rfl) ?_
  refine TL_pure rfl rfl rfl rfl (op_neq rfl rfl) ?_
  refine TL_nil ?_
  refine T_cond rfl (fun hq => ?_) (fun hq => ?_)
  · replace hm := condT hq hm
    refine T_seq ?_
    refine T_region ?_
    refine TL_pure rfl rfl rfl rfl (op_move rfl) ?_
    refine TL_buildSlice 11 (es := List.map a_Ptree [p0]) el129 z88 rfl rfl rfl rfl rfl rfl rfl rfl rfl ?_
    refine TL_pure rfl rfl rfl rfl (op_assign rfl) ?_
    refine TL_nil ?_
    refine T_keepH [2] [11] rfl rfl rfl rfl (by rw [hF]; rfl) ?_
    refine T_ren [(11, 1000)] rfl rfl rfl (by rw [hF]; rfl) ?_
    refine T_ret ?_
    obtain rfl := someI hm
    refine ⟨[_], [1000], ⟨rfl, trivial⟩, ?_, rfl, rfl, rfl, rfl⟩
    rfl
  · replace hm := condF hq hm
    refine T_skip ?_
    refine T_seq ?_
    refine T_drawZ [14] mix (by kernel_rfl) rfl ?_
    obtain ⟨x15, hx15, hm⟩ := bindS hm
    obtain ⟨r17, hr17, hm⟩ := bindS hm
    obtain ⟨x22, hx22, hm⟩ := bindS hm
    obtain ⟨r24, hr24, hm⟩ := bindS hm
    obtain ⟨q25, hq25, hm⟩ := bindS hm
    refine TZ_pure 0 (by kernel_rfl) rfl rfl rfl rfl rfl (op_move rfl) ?_
    refine TZ_trAt 11 (x' := .cp [.int .i64 o3.Stmt.Kind, .int .i64 o3.Stmt.Var, .int .i64 o3.Stmt.Event, .int .i64 o3.Stmt.Sum.Const, .sl 1 (List.map a_i64 o3.Stmt.Sum.Coeffs), .int .i64 o3.Stmt.Index.Const, .sl 1 (List.map a_i64 o3.Stmt.Index.Coeffs), .sl 2 (List.map a_Term o3.Stmt.Facts), .int .i64 o3.at_, .sl 1 (List.map a_Ptree o3.kids)]) rfl (TrR_open (un_tree_eq ho3)) rfl ?_
    refine TZ_pure 1 (by kernel_rfl) rfl rfl rfl rfl rfl (op_nilCheck rfl rfl) ?_
    refine TZ_pure 2 (by kernel_rfl) rfl rfl rfl rfl rfl (op_fieldAddr fa132_2 rfl rfl) ?_
    refine TZ_pure 7 (by kernel_rfl) rfl rfl rfl rfl rfl (op_move rfl) ?_
    refine TZ_trAt 18 (x' := .cp [.int .i64 o3.Stmt.Kind, .int .i64 o3.Stmt.Var, .int .i64 o3.Stmt.Event, .int .i64 o3.Stmt.Sum.Const, .sl 1 (List.map a_i64 o3.Stmt.Sum.Coeffs), .int .i64 o3.Stmt.Index.Const, .sl 1 (List.map a_i64 o3.Stmt.Index.Coeffs), .sl 2 (List.map a_Term o3.Stmt.Facts), .int .i64 o3.at_, .sl 1 (List.map a_Ptree o3.kids)]) rfl (TrR_open (un_tree_eq ho3)) rfl ?_
    refine TZ_pure 8 (by kernel_rfl) rfl rfl rfl rfl rfl (op_nilCheck rfl rfl) ?_
    refine TZ_pure 9 (by kernel_rfl) rfl rfl rfl rfl rfl (op_fieldAddr fa132_2 rfl rfl) ?_
    refine TZ_cut 6 [true, true, true, true, true, true, true, true, true, true, false, false, false, false, false, false] ⟨[(0, a_Ptree p0), (2, .snil), (3, .cp [.int .i64 o3.Stmt.Kind, .int .i64 o3.Stmt.Var, .int .i64 o3.Stmt.Event, .int .i64 o3.Stmt.Sum.Const, .sl 1 (List.map a_i64 o3.Stmt.Sum.Coeffs), .int .i64 o3.Stmt.Index.Const, .sl 1 (List.map a_i64 o3.Stmt.Index.Coeffs), .sl 2 (List.map a_Term o3.Stmt.Facts), .int .i64 o3.at_, .sl 1 (List.map a_Ptree o3.kids)]), (4, .cp [.int .i64 o3.Stmt.Kind, .int .i64 o3.Stmt.Var, .int .i64 o3.Stmt.Event, .int .i64 o3.Stmt.Sum.Const, .sl 1 (List.map a_i64 o3.Stmt.Sum.Coeffs), .int .i64 o3.Stmt.Index.Const, .sl 1 (List.map a_i64 o3.Stmt.Index.Coeffs), .sl 2 (List.map a_Term o3.Stmt.Facts), .int .i64 o3.at_, .sl 1 (List.map a_Ptree o3.kids)]), (5, .cp [.int .i64 o3.Stmt.Kind, .int .i64 o3.Stmt.Var, .int .i64 o3.Stmt.Event, .int .i64 o3.Stmt.Sum.Const, .sl 1 (List.map a_i64 o3.Stmt.Sum.Coeffs), .int .i64 o3.Stmt.Index.Const, .sl 1 (List.map a_i64 o3.Stmt.Index.Coeffs), .sl 2 (List.map a_Term o3.Stmt.Facts)]), (6, .cp [.int .i64 o3.Stmt.Kind]), (7, .int .i64 o3.Stmt.Kind), (8, .bool (!decide (o3.Stmt.Kind = (1 : Int)))), (11, .cp [.int .i64 o3.Stmt.Kind, .int .i64 o3.Stmt.Var, .int .i64 o3.Stmt.Event, .int .i64 o3.Stmt.Sum.Const, .sl 1 (List.map a_i64 o3.Stmt.Sum.Coeffs), .int .i64 o3.Stmt.Index.Const, .sl 1 (List.map a_i64 o3.Stmt.Index.Coeffs), .sl 2 (List.map a_Term o3.Stmt.Facts), .int .i64 o3.at_, .sl 1 (List.map a_Ptree o3.kids)]), (12, .cp [.int .i64 o3.Stmt.Kind, .int .i64 o3.Stmt.Var, .int .i64 o3.Stmt.Event, .int .i64 o3.Stmt.Sum.Const, .sl 1 (List.map a_i64 o3.Stmt.Sum.Coeffs), .int .i64 o3.Stmt.Index.Const, .sl 1 (List.map a_i64 o3.Stmt.Index.Coeffs), .sl 2 (List.map a_Term o3.Stmt.Facts), .int .i64 o3.at_, .sl 1 (List.map a_Ptree o3.kids)]), (13, .cp [.sl 1 (List.map a_Ptree o3.kids)]), (14, .sl 1 (List.map a_Ptree o3.kids)), (15, .cp [a_Ptree x15]), (16, a_Ptree x15), (17, .ow 572), (18, .cp [.int .i64 o3.Stmt.Kind, .int .i64 o3.Stmt.Var, .int .i64 o3.Stmt.Event, .int .i64 o3.Stmt.Sum.Const, .sl 1 (List.map a_i64 o3.Stmt.Sum.Coeffs), .int .i64 o3.Stmt.Index.Const, .sl 1 (List.map a_i64 o3.Stmt.Index.Coeffs), .sl 2 (List.map a_Term o3.Stmt.Facts), .int .i64 o3.at_, .sl 1 (List.map a_Ptree o3.kids)]), (19, .cp [.int .i64 o3.Stmt.Kind, .int .i64 o3.Stmt.Var, .int .i64 o3.Stmt.Event, .int .i64 o3.Stmt.Sum.Const, .sl 1 (List.map a_i64 o3.Stmt.Sum.Coeffs), .int .i64 o3.Stmt.Index.Const, .sl 1 (List.map a_i64 o3.Stmt.Index.Coeffs), .sl 2 (List.map a_Term o3.Stmt.Facts), .int .i64 o3.at_, .sl 1 (List.map a_Ptree o3.kids)]), (20, .cp [.sl 1 (List.map a_Ptree o3.kids)])], [(572, .arr ⟨false, false⟩ 1 88 (List.map a_Ptree r17))]⟩ ?_ (fun hS11_0 => ?_)
    · refine TZ_one 10 (by kernel_rfl) rfl ?_
      refine TL_pure rfl rfl rfl rfl (op_load_one ag129 rfl rfl) ?_
      refine TL_nil ?_
      refine TZ_pure 11 (by kernel_rfl) rfl rfl rfl rfl rfl (op_indexT el129 rfl rfl hx22 rfl) ?_
      refine TZ_one 12 (by kernel_rfl) rfl ?_
      refine TL_pure rfl rfl rfl rfl (op_load_one ag88 rfl rfl) ?_
      refine TL_nil ?_
      refine TZ_one 13 (by kernel_rfl) rfl ?_
      refine TLE_call [] [(1000, 1132)] [] (hrec_impl_tree_parts x22 r24 hr24) (fun _ => rfl) Try.call99 rfl rfl rfl rfl rfl trivial rfl rfl rfl rfl rfl rfl rfl rfl rfl rfl rfl ?_
      refine TL_nil ?_
      refine TZ_one 14 (by kernel_rfl) rfl ?_
      refine TL_appendT (f := a_Ptree) (a := r17) (b := r24) el129 z88 rfl rfl rfl rfl rfl rfl rfl (capI_spec hq25) rfl rfl rfl rfl rfl ?_
      refine TL_nil ?_
      refine TZ_pure 15 (by kernel_rfl) rfl rfl rfl rfl rfl (op_assign rfl) ?_
      refine TZ_done (by kernel_rfl) ?_
      refine T_keepH [2] [572] rfl rfl rfl rfl (by rw [hF]; rfl) ?_
      refine T_ren [(572, 1000)] rfl rfl rfl (by rw [hF]; rfl) ?_
      refine T_ret ?_
      obtain rfl := someI hm
      refine ⟨[_], [1000], ⟨rfl, trivial⟩, ?_, rfl, rfl, rfl, rfl⟩
      rfl
    refine TZ_cut 4 [true, true, true, true, true, true, true, true, true, true, true, true, false, false, false, false] ⟨[(0, a_Ptree p0), (2, .snil), (3, .cp [.int .i64 o3.Stmt.Kind, .int .i64 o3.Stmt.Var, .int .i64 o3.Stmt.Event, .int .i64 o3.Stmt.Sum.Const, .sl 1 (List.map a_i64 o3.Stmt.Sum.Coeffs), .int .i64 o3.Stmt.Index.Const, .sl 1 (List.map a_i64 o3.Stmt.Index.Coeffs), .sl 2 (List.map a_Term o3.Stmt.Facts), .int .i64 o3.at_, .sl 1 (List.map a_Ptree o3.kids)]), (4, .cp [.int .i64 o3.Stmt.Kind, .int .i64 o3.Stmt.Var, .int .i64 o3.Stmt.Event, .int .i64 o3.Stmt.Sum.Const, .sl 1 (List.map a_i64 o3.Stmt.Sum.Coeffs), .int .i64 o3.Stmt.Index.Const, .sl 1 (List.map a_i64 o3.Stmt.Index.Coeffs), .sl 2 (List.map a_Term o3.Stmt.Facts), .int .i64 o3.at_, .sl 1 (List.map a_Ptree o3.kids)]), (5, .cp [.int .i64 o3.Stmt.Kind, .int .i64 o3.Stmt.Var, .int .i64 o3.Stmt.Event, .int .i64 o3.Stmt.Sum.Const, .sl 1 (List.map a_i64 o3.Stmt.Sum.Coeffs), .int .i64 o3.Stmt.Index.Const, .sl 1 (List.map a_i64 o3.Stmt.Index.Coeffs), .sl 2 (List.map a_Term o3.Stmt.Facts)]), (6, .cp [.int .i64 o3.Stmt.Kind]), (7, .int .i64 o3.Stmt.Kind), (8, .bool (!decide (o3.Stmt.Kind = (1 : Int)))), (11, .cp [.int .i64 o3.Stmt.Kind, .int .i64 o3.Stmt.Var, .int .i64 o3.Stmt.Event, .int .i64 o3.Stmt.Sum.Const, .sl 1 (List.map a_i64 o3.Stmt.Sum.Coeffs), .int .i64 o3.Stmt.Index.Const, .sl 1 (List.map a_i64 o3.Stmt.Index.Coeffs), .sl 2 (List.map a_Term o3.Stmt.Facts), .int .i64 o3.at_, .sl 1 (List.map a_Ptree o3.kids)]), (12, .cp [.int .i64 o3.Stmt.Kind, .int .i64 o3.Stmt.Var, .int .i64 o3.Stmt.Event, .int .i64 o3.Stmt.Sum.Const, .sl 1 (List.map a_i64 o3.Stmt.Sum.Coeffs), .int .i64 o3.Stmt.Index.Const, .sl 1 (List.map a_i64 o3.Stmt.Index.Coeffs), .sl 2 (List.map a_Term o3.Stmt.Facts), .int .i64 o3.at_, .sl 1 (List.map a_Ptree o3.kids)]), (13, .cp [.sl 1 (List.map a_Ptree o3.kids)]), (14, .sl 1 (List.map a_Ptree o3.kids)), (15, .cp [a_Ptree x15]), (16, a_Ptree x15), (17, .ow 572), (18, .cp [.int .i64 o3.Stmt.Kind, .int .i64 o3.Stmt.Var, .int .i64 o3.Stmt.Event, .int .i64 o3.Stmt.Sum.Const, .sl 1 (List.map a_i64 o3.Stmt.Sum.Coeffs), .int .i64 o3.Stmt.Index.Const, .sl 1 (List.map a_i64 o3.Stmt.Index.Coeffs), .sl 2 (List.map a_Term o3.Stmt.Facts), .int .i64 o3.at_, .sl 1 (List.map a_Ptree o3.kids)]), (19, .cp [.int .i64 o3.Stmt.Kind, .int .i64 o3.Stmt.Var, .int .i64 o3.Stmt.Event, .int .i64 o3.Stmt.Sum.Const, .sl 1 (List.map a_i64 o3.Stmt.Sum.Coeffs), .int .i64 o3.Stmt.Index.Const, .sl 1 (List.map a_i64 o3.Stmt.Index.Coeffs), .sl 2 (List.map a_Term o3.Stmt.Facts), .int .i64 o3.at_, .sl 1 (List.map a_Ptree o3.kids)]), (20, .cp [.sl 1 (List.map a_Ptree o3.kids)]), (21, .sl 1 (List.map a_Ptree o3.kids)), (22, .cp [a_Ptree x22])], [(572, .arr ⟨false, false⟩ 1 88 (List.map a_Ptree r17))]⟩ ?_ (fun hS11_1 => ?_)
    · refine TZ_one 12 (by kernel_rfl) rfl ?_
      refine TL_pure rfl rfl rfl rfl (op_load_one ag88 rfl rfl) ?_
      refine TL_nil ?_
      refine TZ_one 13 (by kernel_rfl) rfl ?_
      refine TLE_call [] [(1000, 1132)] [] (hrec_impl_tree_parts x22 r24 hr24) (fun _ => rfl) Try.call99 rfl rfl rfl rfl rfl trivial rfl rfl rfl rfl rfl rfl rfl rfl rfl rfl rfl ?_
      refine TL_nil ?_
      refine TZ_one 14 (by kernel_rfl) rfl ?_
      refine TL_appendT (f := a_Ptree) (a := r17) (b := r24) el129 z88 rfl rfl rfl rfl rfl rfl rfl (capI_spec hq25) rfl rfl rfl rfl rfl ?_
      refine TL_nil ?_
      refine TZ_pure 15 (by kernel_rfl) rfl rfl rfl rfl rfl (op_assign rfl) ?_
      refine TZ_done (by kernel_rfl) ?_
      refine T_keepH [2] [572] rfl rfl rfl rfl (by rw [hF]; rfl) ?_
      refine T_ren [(572, 1000)] rfl rfl rfl (by rw [hF]; rfl) ?_
      refine T_ret ?_
      obtain rfl := someI hm
      refine ⟨[_], [1000], ⟨rfl, trivial⟩, ?_, rfl, rfl, rfl, rfl⟩
      rfl
    refine TZ_cut 4 [true, true, true, true, true, true, false, true, true, true, true, true, true, false, false, false] ⟨[(0, a_Ptree p0), (2, .snil), (3, .cp [.int .i64 o3.Stmt.Kind, .int .i64 o3.Stmt.Var, .int .i64 o3.Stmt.Event, .int .i64 o3.Stmt.Sum.Const, .sl 1 (List.map a_i64 o3.Stmt.Sum.Coeffs), .int .i64 o3.Stmt.Index.Const, .sl 1 (List.map a_i64 o3.Stmt.Index.Coeffs), .sl 2 (List.map a_Term o3.Stmt.Facts), .int .i64 o3.at_, .sl 1 (List.map a_Ptree o3.kids)]), (4, .cp [.int .i64 o3.Stmt.Kind, .int .i64 o3.Stmt.Var, .int .i64 o3.Stmt.Event, .int .i64 o3.Stmt.Sum.Const, .sl 1 (List.map a_i64 o3.Stmt.Sum.Coeffs), .int .i64 o3.Stmt.Index.Const, .sl 1 (List.map a_i64 o3.Stmt.Index.Coeffs), .sl 2 (List.map a_Term o3.Stmt.Facts), .int .i64 o3.at_, .sl 1 (List.map a_Ptree o3.kids)]), (5, .cp [.int .i64 o3.Stmt.Kind, .int .i64 o3.Stmt.Var, .int .i64 o3.Stmt.Event, .int .i64 o3.Stmt.Sum.Const, .sl 1 (List.map a_i64 o3.Stmt.Sum.Coeffs), .int .i64 o3.Stmt.Index.Const, .sl 1 (List.map a_i64 o3.Stmt.Index.Coeffs), .sl 2 (List.map a_Term o3.Stmt.Facts)]), (6, .cp [.int .i64 o3.Stmt.Kind]), (7, .int .i64 o3.Stmt.Kind), (8, .bool (!decide (o3.Stmt.Kind = (1 : Int)))), (11, .cp [.int .i64 o3.Stmt.Kind, .int .i64 o3.Stmt.Var, .int .i64 o3.Stmt.Event, .int .i64 o3.Stmt.Sum.Const, .sl 1 (List.map a_i64 o3.Stmt.Sum.Coeffs), .int .i64 o3.Stmt.Index.Const, .sl 1 (List.map a_i64 o3.Stmt.Index.Coeffs), .sl 2 (List.map a_Term o3.Stmt.Facts), .int .i64 o3.at_, .sl 1 (List.map a_Ptree o3.kids)]), (12, .cp [.int .i64 o3.Stmt.Kind, .int .i64 o3.Stmt.Var, .int .i64 o3.Stmt.Event, .int .i64 o3.Stmt.Sum.Const, .sl 1 (List.map a_i64 o3.Stmt.Sum.Coeffs), .int .i64 o3.Stmt.Index.Const, .sl 1 (List.map a_i64 o3.Stmt.Index.Coeffs), .sl 2 (List.map a_Term o3.Stmt.Facts), .int .i64 o3.at_, .sl 1 (List.map a_Ptree o3.kids)]), (13, .cp [.sl 1 (List.map a_Ptree o3.kids)]), (14, .sl 1 (List.map a_Ptree o3.kids)), (15, .cp [a_Ptree x15]), (16, a_Ptree x15), (18, .cp [.int .i64 o3.Stmt.Kind, .int .i64 o3.Stmt.Var, .int .i64 o3.Stmt.Event, .int .i64 o3.Stmt.Sum.Const, .sl 1 (List.map a_i64 o3.Stmt.Sum.Coeffs), .int .i64 o3.Stmt.Index.Const, .sl 1 (List.map a_i64 o3.Stmt.Index.Coeffs), .sl 2 (List.map a_Term o3.Stmt.Facts), .int .i64 o3.at_, .sl 1 (List.map a_Ptree o3.kids)]), (19, .cp [.int .i64 o3.Stmt.Kind, .int .i64 o3.Stmt.Var, .int .i64 o3.Stmt.Event, .int .i64 o3.Stmt.Sum.Const, .sl 1 (List.map a_i64 o3.Stmt.Sum.Coeffs), .int .i64 o3.Stmt.Index.Const, .sl 1 (List.map a_i64 o3.Stmt.Index.Coeffs), .sl 2 (List.map a_Term o3.Stmt.Facts), .int .i64 o3.at_, .sl 1 (List.map a_Ptree o3.kids)]), (20, .cp [.sl 1 (List.map a_Ptree o3.kids)]), (21, .sl 1 (List.map a_Ptree o3.kids)), (22, .cp [a_Ptree x22]), (23, a_Ptree x22)], []⟩ ?_ (fun hS11_2 => ?_)
    · refine TZ_one 6 (by kernel_rfl) rfl ?_
      refine TLE_call [] [(1000, 572)] [] (hrec_impl_tree_parts x15 r17 hr17) (fun _ => rfl) Try.call99 rfl rfl rfl rfl rfl trivial rfl rfl rfl rfl rfl rfl rfl rfl rfl rfl rfl ?_
      refine TL_nil ?_
      refine TZ_one 13 (by kernel_rfl) rfl ?_
      refine TLE_call [] [(1000, 1132)] [] (hrec_impl_tree_parts x22 r24 hr24) (fun _ => rfl) Try.call99 rfl rfl rfl rfl rfl trivial rfl rfl rfl rfl rfl rfl rfl rfl rfl rfl rfl ?_
      refine TL_nil ?_
      refine TZ_one 14 (by kernel_rfl) rfl ?_
      refine TL_appendT (f := a_Ptree) (a := r17) (b := r24) el129 z88 rfl rfl rfl rfl rfl rfl rfl (capI_spec hq25) rfl rfl rfl rfl rfl ?_
      refine TL_nil ?_
      refine TZ_pure 15 (by kernel_rfl) rfl rfl rfl rfl rfl (op_assign rfl) ?_
      refine TZ_done (by kernel_rfl) ?_
      refine T_keepH [2] [572] rfl rfl rfl rfl (by rw [hF]; rfl) ?_
      refine T_ren [(572, 1000)] rfl rfl rfl (by rw [hF]; rfl) ?_
      refine T_ret ?_
      obtain rfl := someI hm
      refine ⟨[_], [1000], ⟨rfl, trivial⟩, ?_, rfl, rfl, rfl, rfl⟩
      rfl
    refine TZ_cut 6 [true, true, true, true, true, true, false, true, true, true, true, false, false, false, false, false] ⟨[(0, a_Ptree p0), (2, .snil), (3, .cp [.int .i64 o3.Stmt.Kind, .int .i64 o3.Stmt.Var, .int .i64 o3.Stmt.Event, .int .i64 o3.Stmt.Sum.Const, .sl 1 (List.map a_i64 o3.Stmt.Sum.Coeffs), .int .i64 o3.Stmt.Index.Const, .sl 1 (List.map a_i64 o3.Stmt.Index.Coeffs), .sl 2 (List.map a_Term o3.Stmt.Facts), .int .i64 o3.at_, .sl 1 (List.map a_Ptree o3.kids)]), (4, .cp [.int .i64 o3.Stmt.Kind, .int .i64 o3.Stmt.Var, .int .i64 o3.Stmt.Event, .int .i64 o3.Stmt.Sum.Const, .sl 1 (List.map a_i64 o3.Stmt.Sum.Coeffs), .int .i64 o3.Stmt.Index.Const, .sl 1 (List.map a_i64 o3.Stmt.Index.Coeffs), .sl 2 (List.map a_Term o3.Stmt.Facts), .int .i64 o3.at_, .sl 1 (List.map a_Ptree o3.kids)]), (5, .cp [.int .i64 o3.Stmt.Kind, .int .i64 o3.Stmt.Var, .int .i64 o3.Stmt.Event, .int .i64 o3.Stmt.Sum.Const, .sl 1 (List.map a_i64 o3.Stmt.Sum.Coeffs), .int .i64 o3.Stmt.Index.Const, .sl 1 (List.map a_i64 o3.Stmt.Index.Coeffs), .sl 2 (List.map a_Term o3.Stmt.Facts)]), (6, .cp [.int .i64 o3.Stmt.Kind]), (7, .int .i64 o3.Stmt.Kind), (8, .bool (!decide (o3.Stmt.Kind = (1 : Int)))), (11, .cp [.int .i64 o3.Stmt.Kind, .int .i64 o3.Stmt.Var, .int .i64 o3.Stmt.Event, .int .i64 o3.Stmt.Sum.Const, .sl 1 (List.map a_i64 o3.Stmt.Sum.Coeffs), .int .i64 o3.Stmt.Index.Const, .sl 1 (List.map a_i64 o3.Stmt.Index.Coeffs), .sl 2 (List.map a_Term o3.Stmt.Facts), .int .i64 o3.at_, .sl 1 (List.map a_Ptree o3.kids)]), (12, .cp [.int .i64 o3.Stmt.Kind, .int .i64 o3.Stmt.Var, .int .i64 o3.Stmt.Event, .int .i64 o3.Stmt.Sum.Const, .sl 1 (List.map a_i64 o3.Stmt.Sum.Coeffs), .int .i64 o3.Stmt.Index.Const, .sl 1 (List.map a_i64 o3.Stmt.Index.Coeffs), .sl 2 (List.map a_Term o3.Stmt.Facts), .int .i64 o3.at_, .sl 1 (List.map a_Ptree o3.kids)]), (13, .cp [.sl 1 (List.map a_Ptree o3.kids)]), (14, .sl 1 (List.map a_Ptree o3.kids)), (15, .cp [a_Ptree x15]), (16, a_Ptree x15), (18, .cp [.int .i64 o3.Stmt.Kind, .int .i64 o3.Stmt.Var, .int .i64 o3.Stmt.Event, .int .i64 o3.Stmt.Sum.Const, .sl 1 (List.map a_i64 o3.Stmt.Sum.Coeffs), .int .i64 o3.Stmt.Index.Const, .sl 1 (List.map a_i64 o3.Stmt.Index.Coeffs), .sl 2 (List.map a_Term o3.Stmt.Facts), .int .i64 o3.at_, .sl 1 (List.map a_Ptree o3.kids)]), (19, .cp [.int .i64 o3.Stmt.Kind, .int .i64 o3.Stmt.Var, .int .i64 o3.Stmt.Event, .int .i64 o3.Stmt.Sum.Const, .sl 1 (List.map a_i64 o3.Stmt.Sum.Coeffs), .int .i64 o3.Stmt.Index.Const, .sl 1 (List.map a_i64 o3.Stmt.Index.Coeffs), .sl 2 (List.map a_Term o3.Stmt.Facts), .int .i64 o3.at_, .sl 1 (List.map a_Ptree o3.kids)]), (20, .cp [.sl 1 (List.map a_Ptree o3.kids)]), (21, .sl 1 (List.map a_Ptree o3.kids))], []⟩ ?_ (fun hS11_3 => ?_)
    · refine TZ_pure 11 (by kernel_rfl) rfl rfl rfl rfl rfl (op_indexT el129 rfl rfl hx22 rfl) ?_
      refine TZ_each [6, 12] (by kernel_rfl) rfl ?_
      refine ⟨?_, ?_⟩
      · refine ⟨_, rfl, ?_⟩
        refine TLE_call [] [(1000, 572)] [] (hrec_impl_tree_parts x15 r17 hr17) (fun _ => rfl) Try.call99 rfl rfl rfl rfl rfl trivial rfl rfl rfl rfl rfl rfl rfl rfl rfl rfl rfl ?_
        refine TL_nil ?_
        refine TZ_keepH [0, 2, 3, 4, 5, 6, 7, 8, 11, 12, 13, 14, 15, 16, 17, 18, 19, 20, 21, 22] [572] rfl rfl rfl rfl (by rw [hF]; rfl) ?_
        exact hS11_1
      · refine ⟨_, rfl, ?_⟩
        refine TL_pure rfl rfl rfl rfl (op_load_one ag88 rfl rfl) ?_
        refine TL_nil ?_
        refine TZ_keepH [0, 2, 3, 4, 5, 6, 7, 8, 11, 12, 13, 14, 15, 16, 18, 19, 20, 21, 22, 23] [] rfl rfl rfl rfl (by rw [hF]; rfl) ?_
        exact hS11_2
    refine TZ_cut 7 [true, true, true, true, true, true, false, true, true, true, false, false, false, false, false, false] ⟨[(0, a_Ptree p0), (2, .snil), (3, .cp [.int .i64 o3.Stmt.Kind, .int .i64 o3.Stmt.Var, .int .i64 o3.Stmt.Event, .int .i64 o3.Stmt.Sum.Const, .sl 1 (List.map a_i64 o3.Stmt.Sum.Coeffs), .int .i64 o3.Stmt.Index.Const, .sl 1 (List.map a_i64 o3.Stmt.Index.Coeffs), .sl 2 (List.map a_Term o3.Stmt.Facts), .int .i64 o3.at_, .sl 1 (List.map a_Ptree o3.kids)]), (4, .cp [.int .i64 o3.Stmt.Kind, .int .i64 o3.Stmt.Var, .int .i64 o3.Stmt.Event, .int .i64 o3.Stmt.Sum.Const, .sl 1 (List.map a_i64 o3.Stmt.Sum.Coeffs), .int .i64 o3.Stmt.Index.Const, .sl 1 (List.map a_i64 o3.Stmt.Index.Coeffs), .sl 2 (List.map a_Term o3.Stmt.Facts), .int .i64 o3.at_, .sl 1 (List.map a_Ptree o3.kids)]), (5, .cp [.int .i64 o3.Stmt.Kind, .int .i64 o3.Stmt.Var, .int .i64 o3.Stmt.Event, .int .i64 o3.Stmt.Sum.Const, .sl 1 (List.map a_i64 o3.Stmt.Sum.Coeffs), .int .i64 o3.Stmt.Index.Const, .sl 1 (List.map a_i64 o3.Stmt.Index.Coeffs), .sl 2 (List.map a_Term o3.Stmt.Facts)]), (6, .cp [.int .i64 o3.Stmt.Kind]), (7, .int .i64 o3.Stmt.Kind), (8, .bool (!decide (o3.Stmt.Kind = (1 : Int)))), (11, .cp [.int .i64 o3.Stmt.Kind, .int .i64 o3.Stmt.Var, .int .i64 o3.Stmt.Event, .int .i64 o3.Stmt.Sum.Const, .sl 1 (List.map a_i64 o3.Stmt.Sum.Coeffs), .int .i64 o3.Stmt.Index.Const, .sl 1 (List.map a_i64 o3.Stmt.Index.Coeffs), .sl 2 (List.map a_Term o3.Stmt.Facts), .int .i64 o3.at_, .sl 1 (List.map a_Ptree o3.kids)]), (12, .cp [.int .i64 o3.Stmt.Kind, .int .i64 o3.Stmt.Var, .int .i64 o3.Stmt.Event, .int .i64 o3.Stmt.Sum.Const, .sl 1 (List.map a_i64 o3.Stmt.Sum.Coeffs), .int .i64 o3.Stmt.Index.Const, .sl 1 (List.map a_i64 o3.Stmt.Index.Coeffs), .sl 2 (List.map a_Term o3.Stmt.Facts), .int .i64 o3.at_, .sl 1 (List.map a_Ptree o3.kids)]), (13, .cp [.sl 1 (List.map a_Ptree o3.kids)]), (14, .sl 1 (List.map a_Ptree o3.kids)), (15, .cp [a_Ptree x15]), (16, a_Ptree x15), (18, .cp [.int .i64 o3.Stmt.Kind, .int .i64 o3.Stmt.Var, .int .i64 o3.Stmt.Event, .int .i64 o3.Stmt.Sum.Const, .sl 1 (List.map a_i64 o3.Stmt.Sum.Coeffs), .int .i64 o3.Stmt.Index.Const, .sl 1 (List.map a_i64 o3.Stmt.Index.Coeffs), .sl 2 (List.map a_Term o3.Stmt.Facts), .int .i64 o3.at_, .sl 1 (List.map a_Ptree o3.kids)]), (19, .cp [.int .i64 o3.Stmt.Kind, .int .i64 o3.Stmt.Var, .int .i64 o3.Stmt.Event, .int .i64 o3.Stmt.Sum.Const, .sl 1 (List.map a_i64 o3.Stmt.Sum.Coeffs), .int .i64 o3.Stmt.Index.Const, .sl 1 (List.map a_i64 o3.Stmt.Index.Coeffs), .sl 2 (List.map a_Term o3.Stmt.Facts), .int .i64 o3.at_, .sl 1 (List.map a_Ptree o3.kids)]), (20, .cp [.sl 1 (List.map a_Ptree o3.kids)])], []⟩ ?_ (fun hS11_4 => ?_)
    · refine TZ_each [6, 10] (by kernel_rfl) rfl ?_
      refine ⟨?_, ?_⟩
      · refine ⟨_, rfl, ?_⟩
        refine TLE_call [] [(1000, 572)] [] (hrec_impl_tree_parts x15 r17 hr17) (fun _ => rfl) Try.call99 rfl rfl rfl rfl rfl trivial rfl rfl rfl rfl rfl rfl rfl rfl rfl rfl rfl ?_
        refine TL_nil ?_
        refine TZ_keepH [0, 2, 3, 4, 5, 6, 7, 8, 11, 12, 13, 14, 15, 16, 17, 18, 19, 20] [572] rfl rfl rfl rfl (by rw [hF]; rfl) ?_
        exact hS11_0
      · refine ⟨_, rfl, ?_⟩
        refine TL_pure rfl rfl rfl rfl (op_load_one ag129 rfl rfl) ?_
        refine TL_nil ?_
        refine TZ_keepH [0, 2, 3, 4, 5, 6, 7, 8, 11, 12, 13, 14, 15, 16, 18, 19, 20, 21] [] rfl rfl rfl rfl (by rw [hF]; rfl) ?_
        exact hS11_3
    refine TZ_cut 5 [true, true, true, true, true, true, false, true, true, true, true, true, false, false, false, false] ⟨[(0, a_Ptree p0), (2, .snil), (3, .cp [.int .i64 o3.Stmt.Kind, .int .i64 o3.Stmt.Var, .int .i64 o3.Stmt.Event, .int .i64 o3.Stmt.Sum.Const, .sl 1 (List.map a_i64 o3.Stmt.Sum.Coeffs), .int .i64 o3.Stmt.Index.Const, .sl 1 (List.map a_i64 o3.Stmt.Index.Coeffs), .sl 2 (List.map a_Term o3.Stmt.Facts), .int .i64 o3.at_, .sl 1 (List.map a_Ptree o3.kids)]), (4, .cp [.int .i64 o3.Stmt.Kind, .int .i64 o3.Stmt.Var, .int .i64 o3.Stmt.Event, .int .i64 o3.Stmt.Sum.Const, .sl 1 (List.map a_i64 o3.Stmt.Sum.Coeffs), .int .i64 o3.Stmt.Index.Const, .sl 1 (List.map a_i64 o3.Stmt.Index.Coeffs), .sl 2 (List.map a_Term o3.Stmt.Facts), .int .i64 o3.at_, .sl 1 (List.map a_Ptree o3.kids)]), (5, .cp [.int .i64 o3.Stmt.Kind, .int .i64 o3.Stmt.Var, .int .i64 o3.Stmt.Event, .int .i64 o3.Stmt.Sum.Const, .sl 1 (List.map a_i64 o3.Stmt.Sum.Coeffs), .int .i64 o3.Stmt.Index.Const, .sl 1 (List.map a_i64 o3.Stmt.Index.Coeffs), .sl 2 (List.map a_Term o3.Stmt.Facts)]), (6, .cp [.int .i64 o3.Stmt.Kind]), (7, .int .i64 o3.Stmt.Kind), (8, .bool (!decide (o3.Stmt.Kind = (1 : Int)))), (11, .cp [.int .i64 o3.Stmt.Kind, .int .i64 o3.Stmt.Var, .int .i64 o3.Stmt.Event, .int .i64 o3.Stmt.Sum.Const, .sl 1 (List.map a_i64 o3.Stmt.Sum.Coeffs), .int .i64 o3.Stmt.Index.Const, .sl 1 (List.map a_i64 o3.Stmt.Index.Coeffs), .sl 2 (List.map a_Term o3.Stmt.Facts), .int .i64 o3.at_, .sl 1 (List.map a_Ptree o3.kids)]), (12, .cp [.int .i64 o3.Stmt.Kind, .int .i64 o3.Stmt.Var, .int .i64 o3.Stmt.Event, .int .i64 o3.Stmt.Sum.Const, .sl 1 (List.map a_i64 o3.Stmt.Sum.Coeffs), .int .i64 o3.Stmt.Index.Const, .sl 1 (List.map a_i64 o3.Stmt.Index.Coeffs), .sl 2 (List.map a_Term o3.Stmt.Facts), .int .i64 o3.at_, .sl 1 (List.map a_Ptree o3.kids)]), (13, .cp [.sl 1 (List.map a_Ptree o3.kids)]), (14, .sl 1 (List.map a_Ptree o3.kids)), (15, .cp [a_Ptree x15]), (16, a_Ptree x15), (18, .cp [.int .i64 o3.Stmt.Kind, .int .i64 o3.Stmt.Var, .int .i64 o3.Stmt.Event, .int .i64 o3.Stmt.Sum.Const, .sl 1 (List.map a_i64 o3.Stmt.Sum.Coeffs), .int .i64 o3.Stmt.Index.Const, .sl 1 (List.map a_i64 o3.Stmt.Index.Coeffs), .sl 2 (List.map a_Term o3.Stmt.Facts), .int .i64 o3.at_, .sl 1 (List.map a_Ptree o3.kids)]), (19, .cp [.int .i64 o3.Stmt.Kind, .int .i64 o3.Stmt.Var, .int .i64 o3.Stmt.Event, .int .i64 o3.Stmt.Sum.Const, .sl 1 (List.map a_i64 o3.Stmt.Sum.Coeffs), .int .i64 o3.Stmt.Index.Const, .sl 1 (List.map a_i64 o3.Stmt.Index.Coeffs), .sl 2 (List.map a_Term o3.Stmt.Facts), .int .i64 o3.at_, .sl 1 (List.map a_Ptree o3.kids)]), (20, .cp [.sl 1 (List.map a_Ptree o3.kids)]), (21, .sl 1 (List.map a_Ptree o3.kids)), (22, .cp [a_Ptree x22])], []⟩ ?_ (fun hS11_5 => ?_)
    · refine TZ_each [6, 12] (by kernel_rfl) rfl ?_
      refine ⟨?_, ?_⟩
      · refine ⟨_, rfl, ?_⟩
        refine TLE_call [] [(1000, 572)] [] (hrec_impl_tree_parts x15 r17 hr17) (fun _ => rfl) Try.call99 rfl rfl rfl rfl rfl trivial rfl rfl rfl rfl rfl rfl rfl rfl rfl rfl rfl ?_
        refine TL_nil ?_
        refine TZ_keepH [0, 2, 3, 4, 5, 6, 7, 8, 11, 12, 13, 14, 15, 16, 17, 18, 19, 20, 21, 22] [572] rfl rfl rfl rfl (by rw [hF]; rfl) ?_
        exact hS11_1
      · refine ⟨_, rfl, ?_⟩
        refine TL_pure rfl rfl rfl rfl (op_load_one ag88 rfl rfl) ?_
        refine TL_nil ?_
        refine TZ_keepH [0, 2, 3, 4, 5, 6, 7, 8, 11, 12, 13, 14, 15, 16, 18, 19, 20, 21, 22, 23] [] rfl rfl rfl rfl (by rw [hF]; rfl) ?_
        exact hS11_2
    refine TZ_cut 5 [true, true, true, true, true, false, false, true, true, true, true, true, true, false, false, false] ⟨[(0, a_Ptree p0), (2, .snil), (3, .cp [.int .i64 o3.Stmt.Kind, .int .i64 o3.Stmt.Var, .int .i64 o3.Stmt.Event, .int .i64 o3.Stmt.Sum.Const, .sl 1 (List.map a_i64 o3.Stmt.Sum.Coeffs), .int .i64 o3.Stmt.Index.Const, .sl 1 (List.map a_i64 o3.Stmt.Index.Coeffs), .sl 2 (List.map a_Term o3.Stmt.Facts), .int .i64 o3.at_, .sl 1 (List.map a_Ptree o3.kids)]), (4, .cp [.int .i64 o3.Stmt.Kind, .int .i64 o3.Stmt.Var, .int .i64 o3.Stmt.Event, .int .i64 o3.Stmt.Sum.Const, .sl 1 (List.map a_i64 o3.Stmt.Sum.Coeffs), .int .i64 o3.Stmt.Index.Const, .sl 1 (List.map a_i64 o3.Stmt.Index.Coeffs), .sl 2 (List.map a_Term o3.Stmt.Facts), .int .i64 o3.at_, .sl 1 (List.map a_Ptree o3.kids)]), (5, .cp [.int .i64 o3.Stmt.Kind, .int .i64 o3.Stmt.Var, .int .i64 o3.Stmt.Event, .int .i64 o3.Stmt.Sum.Const, .sl 1 (List.map a_i64 o3.Stmt.Sum.Coeffs), .int .i64 o3.Stmt.Index.Const, .sl 1 (List.map a_i64 o3.Stmt.Index.Coeffs), .sl 2 (List.map a_Term o3.Stmt.Facts)]), (6, .cp [.int .i64 o3.Stmt.Kind]), (7, .int .i64 o3.Stmt.Kind), (8, .bool (!decide (o3.Stmt.Kind = (1 : Int)))), (11, .cp [.int .i64 o3.Stmt.Kind, .int .i64 o3.Stmt.Var, .int .i64 o3.Stmt.Event, .int .i64 o3.Stmt.Sum.Const, .sl 1 (List.map a_i64 o3.Stmt.Sum.Coeffs), .int .i64 o3.Stmt.Index.Const, .sl 1 (List.map a_i64 o3.Stmt.Index.Coeffs), .sl 2 (List.map a_Term o3.Stmt.Facts), .int .i64 o3.at_, .sl 1 (List.map a_Ptree o3.kids)]), (12, .cp [.int .i64 o3.Stmt.Kind, .int .i64 o3.Stmt.Var, .int .i64 o3.Stmt.Event, .int .i64 o3.Stmt.Sum.Const, .sl 1 (List.map a_i64 o3.Stmt.Sum.Coeffs), .int .i64 o3.Stmt.Index.Const, .sl 1 (List.map a_i64 o3.Stmt.Index.Coeffs), .sl 2 (List.map a_Term o3.Stmt.Facts), .int .i64 o3.at_, .sl 1 (List.map a_Ptree o3.kids)]), (13, .cp [.sl 1 (List.map a_Ptree o3.kids)]), (14, .sl 1 (List.map a_Ptree o3.kids)), (15, .cp [a_Ptree x15]), (18, .cp [.int .i64 o3.Stmt.Kind, .int .i64 o3.Stmt.Var, .int .i64 o3.Stmt.Event, .int .i64 o3.Stmt.Sum.Const, .sl 1 (List.map a_i64 o3.Stmt.Sum.Coeffs), .int .i64 o3.Stmt.Index.Const, .sl 1 (List.map a_i64 o3.Stmt.Index.Coeffs), .sl 2 (List.map a_Term o3.Stmt.Facts), .int .i64 o3.at_, .sl 1 (List.map a_Ptree o3.kids)]), (19, .cp [.int .i64 o3.Stmt.Kind, .int .i64 o3.Stmt.Var, .int .i64 o3.Stmt.Event, .int .i64 o3.Stmt.Sum.Const, .sl 1 (List.map a_i64 o3.Stmt.Sum.Coeffs), .int .i64 o3.Stmt.Index.Const, .sl 1 (List.map a_i64 o3.Stmt.Index.Coeffs), .sl 2 (List.map a_Term o3.Stmt.Facts), .int .i64 o3.at_, .sl 1 (List.map a_Ptree o3.kids)]), (20, .cp [.sl 1 (List.map a_Ptree o3.kids)]), (21, .sl 1 (List.map a_Ptree o3.kids)), (22, .cp [a_Ptree x22]), (23, a_Ptree x22)], []⟩ ?_ (fun hS11_6 => ?_)
    · refine TZ_one 5 (by kernel_rfl) rfl ?_
      refine TL_pure rfl rfl rfl rfl (op_load_one ag88 rfl rfl) ?_
      refine TL_nil ?_
      refine TZ_one 6 (by kernel_rfl) rfl ?_
      refine TLE_call [] [(1000, 572)] [] (hrec_impl_tree_parts x15 r17 hr17) (fun _ => rfl) Try.call99 rfl rfl rfl rfl rfl trivial rfl rfl rfl rfl rfl rfl rfl rfl rfl rfl rfl ?_
      refine TL_nil ?_
      refine TZ_one 13 (by kernel_rfl) rfl ?_
      refine TLE_call [] [(1000, 1132)] [] (hrec_impl_tree_parts x22 r24 hr24) (fun _ => rfl) Try.call99 rfl rfl rfl rfl rfl trivial rfl rfl rfl rfl rfl rfl rfl rfl rfl rfl rfl ?_
      refine TL_nil ?_
      refine TZ_one 14 (by kernel_rfl) rfl ?_
      refine TL_appendT (f := a_Ptree) (a := r17) (b := r24) el129 z88 rfl rfl rfl rfl rfl rfl rfl (capI_spec hq25) rfl rfl rfl rfl rfl ?_
      refine TL_nil ?_
      refine TZ_pure 15 (by kernel_rfl) rfl rfl rfl rfl rfl (op_assign rfl) ?_
      refine TZ_done (by kernel_rfl) ?_
      refine T_keepH [2] [572] rfl rfl rfl rfl (by rw [hF]; rfl) ?_
      refine T_ren [(572, 1000)] rfl rfl rfl (by rw [hF]; rfl) ?_
      refine T_ret ?_
      obtain rfl := someI hm
      refine ⟨[_], [1000], ⟨rfl, trivial⟩, ?_, rfl, rfl, rfl, rfl⟩
      rfl
    refine TZ_cut 7 [true, true, true, true, true, false, false, true, true, true, true, false, false, false, false, false] ⟨[(0, a_Ptree p0), (2, .snil), (3, .cp [.int .i64 o3.Stmt.Kind, .int .i64 o3.Stmt.Var, .int .i64 o3.Stmt.Event, .int .i64 o3.Stmt.Sum.Const, .sl 1 (List.map a_i64 o3.Stmt.Sum.Coeffs), .int .i64 o3.Stmt.Index.Const, .sl 1 (List.map a_i64 o3.Stmt.Index.Coeffs), .sl 2 (List.map a_Term o3.Stmt.Facts), .int .i64 o3.at_, .sl 1 (List.map a_Ptree o3.kids)]), (4, .cp [.int .i64 o3.Stmt.Kind, .int .i64 o3.Stmt.Var, .int .i64 o3.Stmt.Event, .int .i64 o3.Stmt.Sum.Const, .sl 1 (List.map a_i64 o3.Stmt.Sum.Coeffs), .int .i64 o3.Stmt.Index.Const, .sl 1 (List.map a_i64 o3.Stmt.Index.Coeffs), .sl 2 (List.map a_Term o3.Stmt.Facts), .int .i64 o3.at_, .sl 1 (List.map a_Ptree o3.kids)]), (5, .cp [.int .i64 o3.Stmt.Kind, .int .i64 o3.Stmt.Var, .int .i64 o3.Stmt.Event, .int .i64 o3.Stmt.Sum.Const, .sl 1 (List.map a_i64 o3.Stmt.Sum.Coeffs), .int .i64 o3.Stmt.Index.Const, .sl 1 (List.map a_i64 o3.Stmt.Index.Coeffs), .sl 2 (List.map a_Term o3.Stmt.Facts)]), (6, .cp [.int .i64 o3.Stmt.Kind]), (7, .int .i64 o3.Stmt.Kind), (8, .bool (!decide (o3.Stmt.Kind = (1 : Int)))), (11, .cp [.int .i64 o3.Stmt.Kind, .int .i64 o3.Stmt.Var, .int .i64 o3.Stmt.Event, .int .i64 o3.Stmt.Sum.Const, .sl 1 (List.map a_i64 o3.Stmt.Sum.Coeffs), .int .i64 o3.Stmt.Index.Const, .sl 1 (List.map a_i64 o3.Stmt.Index.Coeffs), .sl 2 (List.map a_Term o3.Stmt.Facts), .int .i64 o3.at_, .sl 1 (List.map a_Ptree o3.kids)]), (12, .cp [.int .i64 o3.Stmt.Kind, .int .i64 o3.Stmt.Var, .int .i64 o3.Stmt.Event, .int .i64 o3.Stmt.Sum.Const, .sl 1 (List.map a_i64 o3.Stmt.Sum.Coeffs), .int .i64 o3.Stmt.Index.Const, .sl 1 (List.map a_i64 o3.Stmt.Index.Coeffs), .sl 2 (List.map a_Term o3.Stmt.Facts), .int .i64 o3.at_, .sl 1 (List.map a_Ptree o3.kids)]), (13, .cp [.sl 1 (List.map a_Ptree o3.kids)]), (14, .sl 1 (List.map a_Ptree o3.kids)), (15, .cp [a_Ptree x15]), (18, .cp [.int .i64 o3.Stmt.Kind, .int .i64 o3.Stmt.Var, .int .i64 o3.Stmt.Event, .int .i64 o3.Stmt.Sum.Const, .sl 1 (List.map a_i64 o3.Stmt.Sum.Coeffs), .int .i64 o3.Stmt.Index.Const, .sl 1 (List.map a_i64 o3.Stmt.Index.Coeffs), .sl 2 (List.map a_Term o3.Stmt.Facts), .int .i64 o3.at_, .sl 1 (List.map a_Ptree o3.kids)]), (19, .cp [.int .i64 o3.Stmt.Kind, .int .i64 o3.Stmt.Var, .int .i64 o3.Stmt.Event, .int .i64 o3.Stmt.Sum.Const, .sl 1 (List.map a_i64 o3.Stmt.Sum.Coeffs), .int .i64 o3.Stmt.Index.Const, .sl 1 (List.map a_i64 o3.Stmt.Index.Coeffs), .sl 2 (List.map a_Term o3.Stmt.Facts), .int .i64 o3.at_, .sl 1 (List.map a_Ptree o3.kids)]), (20, .cp [.sl 1 (List.map a_Ptree o3.kids)]), (21, .sl 1 (List.map a_Ptree o3.kids))], []⟩ ?_ (fun hS11_7 => ?_)
    · refine TZ_pure 11 (by kernel_rfl) rfl rfl rfl rfl rfl (op_indexT el129 rfl rfl hx22 rfl) ?_
      refine TZ_each [5, 12] (by kernel_rfl) rfl ?_
      refine ⟨?_, ?_⟩
      · refine ⟨_, rfl, ?_⟩
        refine TL_pure rfl rfl rfl rfl (op_load_one ag88 rfl rfl) ?_
        refine TL_nil ?_
        refine TZ_keepH [0, 2, 3, 4, 5, 6, 7, 8, 11, 12, 13, 14, 15, 16, 18, 19, 20, 21, 22] [] rfl rfl rfl rfl (by rw [hF]; rfl) ?_
        exact hS11_5
      · refine ⟨_, rfl, ?_⟩
        refine TL_pure rfl rfl rfl rfl (op_load_one ag88 rfl rfl) ?_
        refine TL_nil ?_
        refine TZ_keepH [0, 2, 3, 4, 5, 6, 7, 8, 11, 12, 13, 14, 15, 18, 19, 20, 21, 22, 23] [] rfl rfl rfl rfl (by rw [hF]; rfl) ?_
        exact hS11_6
    refine TZ_cut 9 [true, true, true, true, false, false, false, true, true, true, false, false, false, false, false, false] ⟨[(0, a_Ptree p0), (2, .snil), (3, .cp [.int .i64 o3.Stmt.Kind, .int .i64 o3.Stmt.Var, .int .i64 o3.Stmt.Event, .int .i64 o3.Stmt.Sum.Const, .sl 1 (List.map a_i64 o3.Stmt.Sum.Coeffs), .int .i64 o3.Stmt.Index.Const, .sl 1 (List.map a_i64 o3.Stmt.Index.Coeffs), .sl 2 (List.map a_Term o3.Stmt.Facts), .int .i64 o3.at_, .sl 1 (List.map a_Ptree o3.kids)]), (4, .cp [.int .i64 o3.Stmt.Kind, .int .i64 o3.Stmt.Var, .int .i64 o3.Stmt.Event, .int .i64 o3.Stmt.Sum.Const, .sl 1 (List.map a_i64 o3.Stmt.Sum.Coeffs), .int .i64 o3.Stmt.Index.Const, .sl 1 (List.map a_i64 o3.Stmt.Index.Coeffs), .sl 2 (List.map a_Term o3.Stmt.Facts), .int .i64 o3.at_, .sl 1 (List.map a_Ptree o3.kids)]), (5, .cp [.int .i64 o3.Stmt.Kind, .int .i64 o3.Stmt.Var, .int .i64 o3.Stmt.Event, .int .i64 o3.Stmt.Sum.Const, .sl 1 (List.map a_i64 o3.Stmt.Sum.Coeffs), .int .i64 o3.Stmt.Index.Const, .sl 1 (List.map a_i64 o3.Stmt.Index.Coeffs), .sl 2 (List.map a_Term o3.Stmt.Facts)]), (6, .cp [.int .i64 o3.Stmt.Kind]), (7, .int .i64 o3.Stmt.Kind), (8, .bool (!decide (o3.Stmt.Kind = (1 : Int)))), (11, .cp [.int .i64 o3.Stmt.Kind, .int .i64 o3.Stmt.Var, .int .i64 o3.Stmt.Event, .int .i64 o3.Stmt.Sum.Const, .sl 1 (List.map a_i64 o3.Stmt.Sum.Coeffs), .int .i64 o3.Stmt.Index.Const, .sl 1 (List.map a_i64 o3.Stmt.Index.Coeffs), .sl 2 (List.map a_Term o3.Stmt.Facts), .int .i64 o3.at_, .sl 1 (List.map a_Ptree o3.kids)]), (12, .cp [.int .i64 o3.Stmt.Kind, .int .i64 o3.Stmt.Var, .int .i64 o3.Stmt.Event, .int .i64 o3.Stmt.Sum.Const, .sl 1 (List.map a_i64 o3.Stmt.Sum.Coeffs), .int .i64 o3.Stmt.Index.Const, .sl 1 (List.map a_i64 o3.Stmt.Index.Coeffs), .sl 2 (List.map a_Term o3.Stmt.Facts), .int .i64 o3.at_, .sl 1 (List.map a_Ptree o3.kids)]), (13, .cp [.sl 1 (List.map a_Ptree o3.kids)]), (14, .sl 1 (List.map a_Ptree o3.kids)), (18, .cp [.int .i64 o3.Stmt.Kind, .int .i64 o3.Stmt.Var, .int .i64 o3.Stmt.Event, .int .i64 o3.Stmt.Sum.Const, .sl 1 (List.map a_i64 o3.Stmt.Sum.Coeffs), .int .i64 o3.Stmt.Index.Const, .sl 1 (List.map a_i64 o3.Stmt.Index.Coeffs), .sl 2 (List.map a_Term o3.Stmt.Facts), .int .i64 o3.at_, .sl 1 (List.map a_Ptree o3.kids)]), (19, .cp [.int .i64 o3.Stmt.Kind, .int .i64 o3.Stmt.Var, .int .i64 o3.Stmt.Event, .int .i64 o3.Stmt.Sum.Const, .sl 1 (List.map a_i64 o3.Stmt.Sum.Coeffs), .int .i64 o3.Stmt.Index.Const, .sl 1 (List.map a_i64 o3.Stmt.Index.Coeffs), .sl 2 (List.map a_Term o3.Stmt.Facts), .int .i64 o3.at_, .sl 1 (List.map a_Ptree o3.kids)]), (20, .cp [.sl 1 (List.map a_Ptree o3.kids)])], []⟩ ?_ (fun hS11_8 => ?_)
    · refine TZ_pure 4 (by kernel_rfl) rfl rfl rfl rfl rfl (op_indexT el129 rfl rfl hx15 rfl) ?_
      refine TZ_each [5, 10] (by kernel_rfl) rfl ?_
      refine ⟨?_, ?_⟩
      · refine ⟨_, rfl, ?_⟩
        refine TL_pure rfl rfl rfl rfl (op_load_one ag88 rfl rfl) ?_
        refine TL_nil ?_
        refine TZ_keepH [0, 2, 3, 4, 5, 6, 7, 8, 11, 12, 13, 14, 15, 16, 18, 19, 20] [] rfl rfl rfl rfl (by rw [hF]; rfl) ?_
        exact hS11_4
      · refine ⟨_, rfl, ?_⟩
        refine TL_pure rfl rfl rfl rfl (op_load_one ag129 rfl rfl) ?_
        refine TL_nil ?_
        refine TZ_keepH [0, 2, 3, 4, 5, 6, 7, 8, 11, 12, 13, 14, 15, 18, 19, 20, 21] [] rfl rfl rfl rfl (by rw [hF]; rfl) ?_
        exact hS11_7
    refine TZ_cut 7 [true, true, true, true, false, false, false, true, true, true, true, true, false, false, false, false] ⟨[(0, a_Ptree p0), (2, .snil), (3, .cp [.int .i64 o3.Stmt.Kind, .int .i64 o3.Stmt.Var, .int .i64 o3.Stmt.Event, .int .i64 o3.Stmt.Sum.Const, .sl 1 (List.map a_i64 o3.Stmt.Sum.Coeffs), .int .i64 o3.Stmt.Index.Const, .sl 1 (List.map a_i64 o3.Stmt.Index.Coeffs), .sl 2 (List.map a_Term o3.Stmt.Facts), .int .i64 o3.at_, .sl 1 (List.map a_Ptree o3.kids)]), (4, .cp [.int .i64 o3.Stmt.Kind, .int .i64 o3.Stmt.Var, .int .i64 o3.Stmt.Event, .int .i64 o3.Stmt.Sum.Const, .sl 1 (List.map a_i64 o3.Stmt.Sum.Coeffs), .int .i64 o3.Stmt.Index.Const, .sl 1 (List.map a_i64 o3.Stmt.Index.Coeffs), .sl 2 (List.map a_Term o3.Stmt.Facts), .int .i64 o3.at_, .sl 1 (List.map a_Ptree o3.kids)]), (5, .cp [.int .i64 o3.Stmt.Kind, .int .i64 o3.Stmt.Var, .int .i64 o3.Stmt.Event, .int .i64 o3.Stmt.Sum.Const, .sl 1 (List.map a_i64 o3.Stmt.Sum.Coeffs), .int .i64 o3.Stmt.Index.Const, .sl 1 (List.map a_i64 o3.Stmt.Index.Coeffs), .sl 2 (List.map a_Term o3.Stmt.Facts)]), (6, .cp [.int .i64 o3.Stmt.Kind]), (7, .int .i64 o3.Stmt.Kind), (8, .bool (!decide (o3.Stmt.Kind = (1 : Int)))), (11, .cp [.int .i64 o3.Stmt.Kind, .int .i64 o3.Stmt.Var, .int .i64 o3.Stmt.Event, .int .i64 o3.Stmt.Sum.Const, .sl 1 (List.map a_i64 o3.Stmt.Sum.Coeffs), .int .i64 o3.Stmt.Index.Const, .sl 1 (List.map a_i64 o3.Stmt.Index.Coeffs), .sl 2 (List.map a_Term o3.Stmt.Facts), .int .i64 o3.at_, .sl 1 (List.map a_Ptree o3.kids)]), (12, .cp [.int .i64 o3.Stmt.Kind, .int .i64 o3.Stmt.Var, .int .i64 o3.Stmt.Event, .int .i64 o3.Stmt.Sum.Const, .sl 1 (List.map a_i64 o3.Stmt.Sum.Coeffs), .int .i64 o3.Stmt.Index.Const, .sl 1 (List.map a_i64 o3.Stmt.Index.Coeffs), .sl 2 (List.map a_Term o3.Stmt.Facts), .int .i64 o3.at_, .sl 1 (List.map a_Ptree o3.kids)]), (13, .cp [.sl 1 (List.map a_Ptree o3.kids)]), (14, .sl 1 (List.map a_Ptree o3.kids)), (18, .cp [.int .i64 o3.Stmt.Kind, .int .i64 o3.Stmt.Var, .int .i64 o3.Stmt.Event, .int .i64 o3.Stmt.Sum.Const, .sl 1 (List.map a_i64 o3.Stmt.Sum.Coeffs), .int .i64 o3.Stmt.Index.Const, .sl 1 (List.map a_i64 o3.Stmt.Index.Coeffs), .sl 2 (List.map a_Term o3.Stmt.Facts), .int .i64 o3.at_, .sl 1 (List.map a_Ptree o3.kids)]), (19, .cp [.int .i64 o3.Stmt.Kind, .int .i64 o3.Stmt.Var, .int .i64 o3.Stmt.Event, .int .i64 o3.Stmt.Sum.Const, .sl 1 (List.map a_i64 o3.Stmt.Sum.Coeffs), .int .i64 o3.Stmt.Index.Const, .sl 1 (List.map a_i64 o3.Stmt.Index.Coeffs), .sl 2 (List.map a_Term o3.Stmt.Facts), .int .i64 o3.at_, .sl 1 (List.map a_Ptree o3.kids)]), (20, .cp [.sl 1 (List.map a_Ptree o3.kids)]), (21, .sl 1 (List.map a_Ptree o3.kids)), (22, .cp [a_Ptree x22])], []⟩ ?_ (fun hS11_9 => ?_)
    · refine TZ_pure 4 (by kernel_rfl) rfl rfl rfl rfl rfl (op_indexT el129 rfl rfl hx15 rfl) ?_
      refine TZ_each [5, 12] (by kernel_rfl) rfl ?_
      refine ⟨?_, ?_⟩
      · refine ⟨_, rfl, ?_⟩
        refine TL_pure rfl rfl rfl rfl (op_load_one ag88 rfl rfl) ?_
        refine TL_nil ?_
        refine TZ_keepH [0, 2, 3, 4, 5, 6, 7, 8, 11, 12, 13, 14, 15, 16, 18, 19, 20, 21, 22] [] rfl rfl rfl rfl (by rw [hF]; rfl) ?_
        exact hS11_5
      · refine ⟨_, rfl, ?_⟩
        refine TL_pure rfl rfl rfl rfl (op_load_one ag88 rfl rfl) ?_
        refine TL_nil ?_
        refine TZ_keepH [0, 2, 3, 4, 5, 6, 7, 8, 11, 12, 13, 14, 15, 18, 19, 20, 21, 22, 23] [] rfl rfl rfl rfl (by rw [hF]; rfl) ?_
        exact hS11_6
    refine TZ_cut 7 [true, true, true, false, false, false, false, true, true, true, true, true, true, false, false, false] ⟨[(0, a_Ptree p0), (2, .snil), (3, .cp [.int .i64 o3.Stmt.Kind, .int .i64 o3.Stmt.Var, .int .i64 o3.Stmt.Event, .int .i64 o3.Stmt.Sum.Const, .sl 1 (List.map a_i64 o3.Stmt.Sum.Coeffs), .int .i64 o3.Stmt.Index.Const, .sl 1 (List.map a_i64 o3.Stmt.Index.Coeffs), .sl 2 (List.map a_Term o3.Stmt.Facts), .int .i64 o3.at_, .sl 1 (List.map a_Ptree o3.kids)]), (4, .cp [.int .i64 o3.Stmt.Kind, .int .i64 o3.Stmt.Var, .int .i64 o3.Stmt.Event, .int .i64 o3.Stmt.Sum.Const, .sl 1 (List.map a_i64 o3.Stmt.Sum.Coeffs), .int .i64 o3.Stmt.Index.Const, .sl 1 (List.map a_i64 o3.Stmt.Index.Coeffs), .sl 2 (List.map a_Term o3.Stmt.Facts), .int .i64 o3.at_, .sl 1 (List.map a_Ptree o3.kids)]), (5, .cp [.int .i64 o3.Stmt.Kind, .int .i64 o3.Stmt.Var, .int .i64 o3.Stmt.Event, .int .i64 o3.Stmt.Sum.Const, .sl 1 (List.map a_i64 o3.Stmt.Sum.Coeffs), .int .i64 o3.Stmt.Index.Const, .sl 1 (List.map a_i64 o3.Stmt.Index.Coeffs), .sl 2 (List.map a_Term o3.Stmt.Facts)]), (6, .cp [.int .i64 o3.Stmt.Kind]), (7, .int .i64 o3.Stmt.Kind), (8, .bool (!decide (o3.Stmt.Kind = (1 : Int)))), (11, .cp [.int .i64 o3.Stmt.Kind, .int .i64 o3.Stmt.Var, .int .i64 o3.Stmt.Event, .int .i64 o3.Stmt.Sum.Const, .sl 1 (List.map a_i64 o3.Stmt.Sum.Coeffs), .int .i64 o3.Stmt.Index.Const, .sl 1 (List.map a_i64 o3.Stmt.Index.Coeffs), .sl 2 (List.map a_Term o3.Stmt.Facts), .int .i64 o3.at_, .sl 1 (List.map a_Ptree o3.kids)]), (12, .cp [.int .i64 o3.Stmt.Kind, .int .i64 o3.Stmt.Var, .int .i64 o3.Stmt.Event, .int .i64 o3.Stmt.Sum.Const, .sl 1 (List.map a_i64 o3.Stmt.Sum.Coeffs), .int .i64 o3.Stmt.Index.Const, .sl 1 (List.map a_i64 o3.Stmt.Index.Coeffs), .sl 2 (List.map a_Term o3.Stmt.Facts), .int .i64 o3.at_, .sl 1 (List.map a_Ptree o3.kids)]), (13, .cp [.sl 1 (List.map a_Ptree o3.kids)]), (18, .cp [.int .i64 o3.Stmt.Kind, .int .i64 o3.Stmt.Var, .int .i64 o3.Stmt.Event, .int .i64 o3.Stmt.Sum.Const, .sl 1 (List.map a_i64 o3.Stmt.Sum.Coeffs), .int .i64 o3.Stmt.Index.Const, .sl 1 (List.map a_i64 o3.Stmt.Index.Coeffs), .sl 2 (List.map a_Term o3.Stmt.Facts), .int .i64 o3.at_, .sl 1 (List.map a_Ptree o3.kids)]), (19, .cp [.int .i64 o3.Stmt.Kind, .int .i64 o3.Stmt.Var, .int .i64 o3.Stmt.Event, .int .i64 o3.Stmt.Sum.Const, .sl 1 (List.map a_i64 o3.Stmt.Sum.Coeffs), .int .i64 o3.Stmt.Index.Const, .sl 1 (List.map a_i64 o3.Stmt.Index.Coeffs), .sl 2 (List.map a_Term o3.Stmt.Facts), .int .i64 o3.at_, .sl 1 (List.map a_Ptree o3.kids)]), (20, .cp [.sl 1 (List.map a_Ptree o3.kids)]), (21, .sl 1 (List.map a_Ptree o3.kids)), (22, .cp [a_Ptree x22]), (23, a_Ptree x22)], []⟩ ?_ (fun hS11_10 => ?_)
    · refine TZ_one 3 (by kernel_rfl) rfl ?_
      refine TL_pure rfl rfl rfl rfl (op_load_one ag129 rfl rfl) ?_
      refine TL_nil ?_
      refine TZ_pure 4 (by kernel_rfl) rfl rfl rfl rfl rfl (op_indexT el129 rfl rfl hx15 rfl) ?_
      refine TZ_one 5 (by kernel_rfl) rfl ?_
      refine TL_pure rfl rfl rfl rfl (op_load_one ag88 rfl rfl) ?_
      refine TL_nil ?_
      refine TZ_one 6 (by kernel_rfl) rfl ?_
      refine TLE_call [] [(1000, 572)] [] (hrec_impl_tree_parts x15 r17 hr17) (fun _ => rfl) Try.call99 rfl rfl rfl rfl rfl trivial rfl rfl rfl rfl rfl rfl rfl rfl rfl rfl rfl ?_
      refine TL_nil ?_
      refine TZ_one 13 (by kernel_rfl) rfl ?_
      refine TLE_call [] [(1000, 1132)] [] (hrec_impl_tree_parts x22 r24 hr24) (fun _ => rfl) Try.call99 rfl rfl rfl rfl rfl trivial rfl rfl rfl rfl rfl rfl rfl rfl rfl rfl rfl ?_
      refine TL_nil ?_
      refine TZ_one 14 (by kernel_rfl) rfl ?_
      refine TL_appendT (f := a_Ptree) (a := r17) (b := r24) el129 z88 rfl rfl rfl rfl rfl rfl rfl (capI_spec hq25) rfl rfl rfl rfl rfl ?_
      refine TL_nil ?_
      refine TZ_pure 15 (by kernel_rfl) rfl rfl rfl rfl rfl (op_assign rfl) ?_
      refine TZ_done (by kernel_rfl) ?_
      refine T_keepH [2] [572] rfl rfl rfl rfl (by rw [hF]; rfl) ?_
      refine T_ren [(572, 1000)] rfl rfl rfl (by rw [hF]; rfl) ?_
      refine T_ret ?_
      obtain rfl := someI hm
      refine ⟨[_], [1000], ⟨rfl, trivial⟩, ?_, rfl, rfl, rfl, rfl⟩
      rfl
    refine TZ_cut 9 [true, true, true, false, false, false, false, true, true, true, true, false, false, false, false, false] ⟨[(0, a_Ptree p0), (2, .snil), (3, .cp [.int .i64 o3.Stmt.Kind, .int .i64 o3.Stmt.Var, .int .i64 o3.Stmt.Event, .int .i64 o3.Stmt.Sum.Const, .sl 1 (List.map a_i64 o3.Stmt.Sum.Coeffs), .int .i64 o3.Stmt.Index.Const, .sl 1 (List.map a_i64 o3.Stmt.Index.Coeffs), .sl 2 (List.map a_Term o3.Stmt.Facts), .int .i64 o3.at_, .sl 1 (List.map a_Ptree o3.kids)]), (4, .cp [.int .i64 o3.Stmt.Kind, .int .i64 o3.Stmt.Var, .int .i64 o3.Stmt.Event, .int .i64 o3.Stmt.Sum.Const, .sl 1 (List.map a_i64 o3.Stmt.Sum.Coeffs), .int .i64 o3.Stmt.Index.Const, .sl 1 (List.map a_i64 o3.Stmt.Index.Coeffs), .sl 2 (List.map a_Term o3.Stmt.Facts), .int .i64 o3.at_, .sl 1 (List.map a_Ptree o3.kids)]), (5, .cp [.int .i64 o3.Stmt.Kind, .int .i64 o3.Stmt.Var, .int .i64 o3.Stmt.Event, .int .i64 o3.Stmt.Sum.Const, .sl 1 (List.map a_i64 o3.Stmt.Sum.Coeffs), .int .i64 o3.Stmt.Index.Const, .sl 1 (List.map a_i64 o3.Stmt.Index.Coeffs), .sl 2 (List.map a_Term o3.Stmt.Facts)]), (6, .cp [.int .i64 o3.Stmt.Kind]), (7, .int .i64 o3.Stmt.Kind), (8, .bool (!decide (o3.Stmt.Kind = (1 : Int)))), (11, .cp [.int .i64 o3.Stmt.Kind, .int .i64 o3.Stmt.Var, .int .i64 o3.Stmt.Event, .int .i64 o3.Stmt.Sum.Const, .sl 1 (List.map a_i64 o3.Stmt.Sum.Coeffs), .int .i64 o3.Stmt.Index.Const, .sl 1 (List.map a_i64 o3.Stmt.Index.Coeffs), .sl 2 (List.map a_Term o3.Stmt.Facts), .int .i64 o3.at_, .sl 1 (List.map a_Ptree o3.kids)]), (12, .cp [.int .i64 o3.Stmt.Kind, .int .i64 o3.Stmt.Var, .int .i64 o3.Stmt.Event, .int .i64 o3.Stmt.Sum.Const, .sl 1 (List.map a_i64 o3.Stmt.Sum.Coeffs), .int .i64 o3.Stmt.Index.Const, .sl 1 (List.map a_i64 o3.Stmt.Index.Coeffs), .sl 2 (List.map a_Term o3.Stmt.Facts), .int .i64 o3.at_, .sl 1 (List.map a_Ptree o3.kids)]), (13, .cp [.sl 1 (List.map a_Ptree o3.kids)]), (18, .cp [.int .i64 o3.Stmt.Kind, .int .i64 o3.Stmt.Var, .int .i64 o3.Stmt.Event, .int .i64 o3.Stmt.Sum.Const, .sl 1 (List.map a_i64 o3.Stmt.Sum.Coeffs), .int .i64 o3.Stmt.Index.Const, .sl 1 (List.map a_i64 o3.Stmt.Index.Coeffs), .sl 2 (List.map a_Term o3.Stmt.Facts), .int .i64 o3.at_, .sl 1 (List.map a_Ptree o3.kids)]), (19, .cp [.int .i64 o3.Stmt.Kind, .int .i64 o3.Stmt.Var, .int .i64 o3.Stmt.Event, .int .i64 o3.Stmt.Sum.Const, .sl 1 (List.map a_i64 o3.Stmt.Sum.Coeffs), .int .i64 o3.Stmt.Index.Const, .sl 1 (List.map a_i64 o3.Stmt.Index.Coeffs), .sl 2 (List.map a_Term o3.Stmt.Facts), .int .i64 o3.at_, .sl 1 (List.map a_Ptree o3.kids)]), (20, .cp [.sl 1 (List.map a_Ptree o3.kids)]), (21, .sl 1 (List.map a_Ptree o3.kids))], []⟩ ?_ (fun hS11_11 => ?_)
    · refine TZ_pure 11 (by kernel_rfl) rfl rfl rfl rfl rfl (op_indexT el129 rfl rfl hx22 rfl) ?_
      refine TZ_each [3, 12] (by kernel_rfl) rfl ?_
      refine ⟨?_, ?_⟩
      · refine ⟨_, rfl, ?_⟩
        refine TL_pure rfl rfl rfl rfl (op_load_one ag129 rfl rfl) ?_
        refine TL_nil ?_
        refine TZ_keepH [0, 2, 3, 4, 5, 6, 7, 8, 11, 12, 13, 14, 18, 19, 20, 21, 22] [] rfl rfl rfl rfl (by rw [hF]; rfl) ?_
        exact hS11_9
      · refine ⟨_, rfl, ?_⟩
        refine TL_pure rfl rfl rfl rfl (op_load_one ag88 rfl rfl) ?_
        refine TL_nil ?_
        refine TZ_keepH [0, 2, 3, 4, 5, 6, 7, 8, 11, 12, 13, 18, 19, 20, 21, 22, 23] [] rfl rfl rfl rfl (by rw [hF]; rfl) ?_
        exact hS11_10
    refine TZ_each [3, 10] (by kernel_rfl) rfl ?_
    refine ⟨?_, ?_⟩
    · refine ⟨_, rfl, ?_⟩
      refine TL_pure rfl rfl rfl rfl (op_load_one ag129 rfl rfl) ?_
      refine TL_nil ?_
      refine TZ_keepH [0, 2, 3, 4, 5, 6, 7, 8, 11, 12, 13, 14, 18, 19, 20] [] rfl rfl rfl rfl (by rw [hF]; rfl) ?_
      exact hS11_8
    · refine ⟨_, rfl, ?_⟩
      refine TL_pure rfl rfl rfl rfl (op_load_one ag129 rfl rfl) ?_
      refine TL_nil ?_
      refine TZ_keepH [0, 2, 3, 4, 5, 6, 7, 8, 11, 12, 13, 18, 19, 20, 21] [] rfl rfl rfl rfl (by rw [hF]; rfl) ?_
      exact hS11_11
theorem c_impl_tree_parts : ∀ (n : Nat) (p0 : Ptree) (out : List Ptree), m_impl_tree_parts n p0 = some out → ACall Try.prog 99 [a_Ptree p0] [] (.ow 1000) [(1000, .arr ⟨false, false⟩ 1 88 (List.map a_Ptree out))] := by
  intro n
  induction n with
  | zero => intro p0 out hm; cases hm
  | succ n ih => intro p0 out hm; exact c_impl_tree_parts_F (m_impl_tree_parts n) ih p0 out hm
theorem c_impl_joined_F (rec_impl_joined : (List Ptree) → Option Ptree) (hrec_impl_joined : ∀ (p0 : List Ptree) (out : Ptree), rec_impl_joined p0 = some out → ACall Try.prog 100 [.sl 1 (List.map a_Ptree p0)] [] (a_Ptree out) []) (p0 : List Ptree) (out : Ptree) (hm : m_impl_joined_F rec_impl_joined p0 = some out) : ACall Try.prog 100 [.sl 1 (List.map a_Ptree p0)] [] (a_Ptree out) [] := by
  refine ACall.intro Try.func100 rfl Try.ntmps100 rfl (fun F hF => ?_)
  unfold m_impl_joined_F at hm
  refine T_seq ?_
  refine T_region ?_
  refine TL_pure rfl rfl rfl rfl (op_assign rfl) ?_
  refine TL_nil ?_
  refine T_seq ?_
  refine T_seq ?_
  refine T_region ?_
  refine TL_pure rfl rfl rfl rfl (op_move rfl) ?_
  refine TL_pure rfl rfl rfl rfl (op_lenT Try.underlying129 rfl (List.length_map _)) ?_
  refine TL_fact (fun _ _ _ hr => RelP.slLen (i := 3) rfl hr) (fun hlen4 => ?_)
  rw [List.length_map] at hlen4
  refine TL_pure rfl rfl rfl rfl (op_eql rfl rfl) ?_
  refine TL_nil ?_
  refine T_cond rfl (fun hq => ?_) (fun hq => ?_)
  · replace hm := condT hq hm
    refine T_seq ?_
    refine T_region ?_
    refine TL_pure rfl rfl rfl rfl (op_move rfl) ?_
    obtain ⟨x7, hx7, hm⟩ := bindS hm
    refine TL_pure rfl rfl rfl rfl (op_indexT el129 rfl rfl hx7 rfl) ?_
    refine TL_pure rfl rfl rfl rfl (op_load_one ag88 rfl rfl) ?_
    refine TL_pure rfl rfl rfl rfl (op_assign rfl) ?_
    refine TL_nil ?_
    refine T_keepH [2] [] rfl rfl rfl rfl (by rw [hF]; rfl) ?_
    refine T_ret ?_
    obtain rfl := someI hm
    refine ⟨[_], [], ⟨rfl, trivial⟩, ?_, rfl, rfl, rfl, rfl⟩
    rfl
  · replace hm := condF hq hm
    refine T_skip ?_
    refine T_seq ?_
    refine T_drawZ [7] mix (by kernel_rfl) rfl ?_
    obtain ⟨x11, hx11, hm⟩ := bindS hm
    obtain ⟨y14, hy14, hm⟩ := bindS hm
    obtain ⟨r15, hr15, hm⟩ := bindS hm
    refine TZ_pure 0 (by kernel_rfl) rfl rfl rfl rfl rfl (op_buildP pl77 z77 rfl rfl rfl rfl rfl) ?_
    refine TZ_pure 1 (by kernel_rfl) rfl rfl rfl rfl rfl (op_move rfl) ?_
    refine TZ_pure 2 (by kernel_rfl) rfl rfl rfl rfl rfl (op_indexT el129 rfl rfl hx11 rfl) ?_
    refine TZ_pure 3 (by kernel_rfl) rfl rfl rfl rfl rfl (op_load_one ag88 rfl rfl) ?_
    refine TZ_pure 4 (by kernel_rfl) rfl rfl rfl rfl rfl (op_move rfl) ?_
    refine TZ_pure 5 (by kernel_rfl) rfl rfl rfl rfl rfl (op_sliceI el129 rfl ⟨⟨_, rfl⟩, rfl⟩ hy14) ?_
    refine TZ_one 6 (by kernel_rfl) rfl ?_
    refine TL_callT (hrec_impl_joined y14 r15 hr15) Try.call100 rfl rfl rfl rfl rfl ?_
    refine TL_nil ?_
    refine TZ_one 7 (by kernel_rfl) rfl ?_
    refine TL_buildSlice 13 (es := List.map a_Ptree [x11, r15]) el129 z88 rfl rfl rfl rfl rfl rfl rfl rfl rfl ?_
    refine TL_nil ?_
    refine TZ_pure 8 (by kernel_rfl) rfl rfl rfl rfl rfl (op_buildP pl132 z132 rfl rfl rfl rfl rfl) ?_
    refine TZ_one 9 (by kernel_rfl) rfl ?_
    refine TL_box 14 rfl rfl rfl rfl rfl rfl rfl ?_
    refine TL_nil ?_
    refine TZ_pure 10 (by kernel_rfl) rfl rfl rfl rfl rfl (op_assign rfl) ?_
    refine TZ_done (by kernel_rfl) ?_
    refine T_freeze 13 (by rw [hF]; rfl) rfl rfl rfl ?_
    refine T_freezeB 14 (by rw [hF]; rfl) rfl rfl rfl rfl ?_
    refine T_nilAt 2 (x' := .cp [.int .i64 (1 : Int), .int .i64 (0 : Int), .int .i64 (0 : Int), .int .i64 (0 : Int), .sl 1 (List.map a_i64 ([] : List Int)), .int .i64 (0 : Int), .sl 1 (List.map a_i64 ([] : List Int)), .sl 2 (List.map a_Term ([] : List Term)), .int .i64 (0 : Int), .sl 1 (List.map a_Ptree [x11, r15])]) rfl (⟨_, rfl, ⟨_, _, rfl, rfl, ⟨_, _, rfl, rfl, ⟨_, _, rfl, rfl, ⟨_, _, rfl, rfl, ⟨_, _, rfl, .inr ⟨_, rfl⟩, ⟨_, _, rfl, rfl, ⟨_, _, rfl, .inr ⟨_, rfl⟩, ⟨_, _, rfl, .inr ⟨_, rfl⟩, ⟨_, _, rfl, rfl, ⟨_, _, rfl, rfl, rfl⟩⟩⟩⟩⟩⟩⟩⟩⟩⟩⟩) rfl ?_
    refine T_trAt 2 (x' := a_Ptree (re_tree (tree.mk (Stmt.mk (1 : Int) (0 : Int) (0 : Int) (Term.mk (0 : Int) ([] : List Int)) (Term.mk (0 : Int) ([] : List Int)) ([] : List Term)) (0 : Int) [x11, r15]))) rfl (TrR_fold (re_tree_eq (tree.mk (Stmt.mk (1 : Int) (0 : Int) (0 : Int) (Term.mk (0 : Int) ([] : List Int)) (Term.mk (0 : Int) ([] : List Int)) ([] : List Term)) (0 : Int) [x11, r15]))) rfl ?_
    refine T_keepH [2] [] rfl rfl rfl rfl (by rw [hF]; rfl) ?_
    refine T_ret ?_
    obtain rfl := someI hm
    refine ⟨[_], [], ⟨rfl, trivial⟩, ?_, rfl, rfl, rfl, rfl⟩
    rfl
theorem c_impl_joined : ∀ (n : Nat) (p0 : List Ptree) (out : Ptree), m_impl_joined n p0 = some out → ACall Try.prog 100 [.sl 1 (List.map a_Ptree p0)] [] (a_Ptree out) [] := by
  intro n
  induction n with
  | zero => intro p0 out hm; cases hm
  | succ n ih => intro p0 out hm; exact c_impl_joined_F (m_impl_joined n) ih p0 out hm
theorem c_impl_tree_normal_F (rec_impl_tree_normal : Ptree → Option Ptree) (hrec_impl_tree_normal : ∀ (p0 : Ptree) (out : Ptree), rec_impl_tree_normal p0 = some out → ACall Try.prog 56 [a_Ptree p0] [] (a_Ptree out) []) (p0 : Ptree) (out : Ptree) (hm : m_impl_tree_normal_F rec_impl_tree_normal p0 = some out) : ACall Try.prog 56 [a_Ptree p0] [] (a_Ptree out) [] := by
  refine ACall.intro Try.func56 rfl Try.ntmps56 rfl (fun F hF => ?_)
  unfold m_impl_tree_normal_F at hm
  refine T_seq ?_
  refine T_region ?_
  refine TL_pure rfl rfl rfl rfl (op_assign rfl) ?_
  refine TL_nil ?_
  refine T_seq ?_
  refine T_region ?_
  refine TL_pure rfl rfl rfl rfl (op_assign rfl) ?_
  refine TL_nil ?_
  refine T_seq ?_
  refine T_seq ?_
  refine T_region ?_
  refine TL_pure rfl rfl rfl rfl (op_move rfl) ?_
  obtain ⟨r10, hr10, hm⟩ := bindS hm
  refine TLE_call [] [(1000, 11)] [] (c_impl_tree_parts 1000 p0 r10 hr10) (fun _ => rfl) Try.call99 rfl rfl rfl rfl rfl trivial rfl rfl rfl rfl rfl rfl rfl rfl rfl rfl rfl ?_
  refine TL_pure rfl rfl rfl rfl (op_lenO Try.underlying129 rfl rfl (List.length_map _)) ?_
  refine TL_fact (fun _ _ _ hr => RelP.owLen (id := 11) rfl hr) (fun hlen11 => ?_)
  rw [List.length_map] at hlen11
  refine TL_pure rfl rfl rfl rfl (op_move rfl) ?_
  refine TL_nil ?_
  refine T_block ?_
  refine T_ownNil 3 8662 ⟨false, false⟩ 88 rfl rfl (sz := 1) rfl rfl rfl ?_
  refine T_keepH [3, 10, 11, 12] [11, 8662] rfl rfl rfl rfl (by rw [hF]; rfl) ?_
  refine T_ren [(11, 11), (8662, 70000)] rfl rfl rfl (by rw [hF]; rfl) ?_
  refine T_loop ?_
  obtain ⟨u0, hl0, hm⟩ := bindS hm
  refine TR_forL2 r10 (m_impl_tree_normal_F_L0 rec_impl_tree_normal) (fun (s0 : List Ptree) => s0) (fun n0 (s0 : List Ptree) => ⟨[(3, .ow 70000), (10, .ow 11), (11, .int .i64 (r10.length : Int)), (12, .int .i64 (n0 : Int))], [(11, .arr ⟨false, false⟩ 1 88 (List.map a_Ptree r10)), (70000, .arr ⟨false, false⟩ 1 88 (List.map a_Ptree s0))]⟩) (fun u0 => .exit 0) (fun u0 => ⟨[(3, .ow 70000)], [(70000, .arr ⟨false, false⟩ 1 88 (List.map a_Ptree u0))]⟩) (fun u0 => m_impl_tree_normal_F_A0 u0 = some out) hl0 hm (fun u0 hm => ?_) (fun hx0 s0 hm => ?_) (fun hx0 n0 x0 s0 c0 hxn0 hlt0 hm hc0 => ?_)
  · unfold m_impl_tree_normal_F_A0 at hm
    refine T_seq ?_
    refine T_region ?_
    refine TL_pure rfl rfl rfl rfl (op_move rfl) ?_
    refine TL_freeze 70000 (by rw [hF]; rfl) rfl rfl rfl ?_
    obtain ⟨r49, hr49, hm⟩ := bindS hm
    refine TL_callT (c_impl_joined 1000 u0 r49 hr49) Try.call100 rfl rfl rfl rfl rfl ?_
    refine TL_pure rfl rfl rfl rfl (op_assign rfl) ?_
    refine TL_nil ?_
    refine T_keepH [2] [] rfl rfl rfl rfl (by rw [hF]; rfl) ?_
    refine T_ret ?_
    obtain rfl := someI hm
    refine ⟨[_], [], ⟨rfl, trivial⟩, ?_, rfl, rfl, rfl, rfl⟩
    rfl
  · refine T_seq ?_
    refine T_region ?_
    refine TL_pure rfl rfl rfl rfl (op_lss rfl rfl) ?_
    refine TL_nil ?_
    refine T_seq ?_
    refine T_if_false rfl (decide_eq_false (by simp)) ?_
    refine T_keepH [3] [70000] rfl rfl rfl rfl (by rw [hF]; rfl) ?_
    refine T_exit ?_
    exact hx0 s0 hm
  · unfold m_impl_tree_normal_F_L0 at hm
    refine T_seq ?_
    refine T_region ?_
    refine TL_pure rfl rfl rfl rfl (op_lss rfl rfl) ?_
    refine TL_nil ?_
    refine T_seq ?_
    refine T_if_true rfl (decide_eq_true (Int.ofNat_lt.2 hlt0)) ?_
    refine T_skip ?_
    refine T_seq ?_
    refine T_block ?_
    refine T_seq ?_
    refine T_region ?_
    refine TL_pure rfl rfl rfl rfl (op_index_ow el129 rfl rfl rfl rfl (by simpa using (List.getElem?_eq_some_iff.1 hxn0).1)) ?_
    refine TL_pure rfl rfl rfl rfl (op_loadT1 ag88 rfl rfl (hxn0) rfl rfl) ?_
    refine TL_pure rfl rfl rfl rfl (op_assign rfl) ?_
    refine TL_nil ?_
    refine T_seq ?_
    refine T_region ?_
    refine TL_pure rfl rfl rfl rfl (op_move rfl) ?_
    obtain ⟨o16, ho16, hm⟩ := bindS hm
    refine TL_trAt 16 (x' := .cp [.int .i64 o16.Stmt.Kind, .int .i64 o16.Stmt.Var, .int .i64 o16.Stmt.Event, .int .i64 o16.Stmt.Sum.Const, .sl 1 (List.map a_i64 o16.Stmt.Sum.Coeffs), .int .i64 o16.Stmt.Index.Const, .sl 1 (List.map a_i64 o16.Stmt.Index.Coeffs), .sl 2 (List.map a_Term o16.Stmt.Facts), .int .i64 o16.at_, .sl 1 (List.map a_Ptree o16.kids)]) rfl (TrR_open (un_tree_eq ho16)) rfl ?_
    refine TL_pure rfl rfl rfl rfl (op_nilCheck rfl rfl) ?_
    refine TL_pure rfl rfl rfl rfl (op_fieldAddrC (n := 8) fa132_0 rfl rfl rfl) ?_
    refine TL_pure rfl rfl rfl rfl (op_load_agg ag77 sz77 rfl rfl rfl) ?_
    refine TL_pure rfl rfl rfl rfl (op_buildP pl132 z132 rfl rfl rfl rfl rfl) ?_
    refine TL_box 5779 rfl rfl rfl rfl rfl rfl rfl ?_
    refine TL_pure rfl rfl rfl rfl (op_assign rfl) ?_
    refine TL_nil ?_
    refine T_seq ?_
    refine T_seq ?_
    refine T_region ?_
    refine TL_pure rfl rfl rfl rfl (op_move rfl) ?_
    refine TL_trAt 22 (x' := .cp [.int .i64 o16.Stmt.Kind, .int .i64 o16.Stmt.Var, .int .i64 o16.Stmt.Event, .int .i64 o16.Stmt.Sum.Const, .sl 1 (List.map a_i64 o16.Stmt.Sum.Coeffs), .int .i64 o16.Stmt.Index.Const, .sl 1 (List.map a_i64 o16.Stmt.Index.Coeffs), .sl 2 (List.map a_Term o16.Stmt.Facts), .int .i64 o16.at_, .sl 1 (List.map a_Ptree o16.kids)]) rfl (TrR_open (un_tree_eq ho16)) rfl ?_
    refine TL_pure rfl rfl rfl rfl (op_nilCheck rfl rfl) ?_
    refine TL_pure rfl rfl rfl rfl (op_fieldAddr fa132_2 rfl rfl) ?_
    refine TL_pure rfl rfl rfl rfl (op_load_one ag129 rfl rfl) ?_
    refine TL_pure rfl rfl rfl rfl (op_lenT Try.underlying129 rfl (List.length_map _)) ?_
    refine TL_fact (fun _ _ _ hr => RelP.slLen (i := 25) rfl hr) (fun hlen26 => ?_)
    rw [List.length_map] at hlen26
    refine TL_pure rfl rfl rfl rfl (op_move rfl) ?_
    refine TL_nil ?_
    refine T_block ?_
    refine T_ownNilBox 5779 9 8661 ⟨false, false⟩ 88 rfl rfl rfl (sz := 1) rfl rfl rfl rfl ?_
    refine T_keepH [3, 6, 10, 11, 12, 25, 26, 27] [11, 5779, 8661, 70000] rfl rfl rfl rfl (by rw [hF]; rfl) ?_
    refine T_ren [(11, 11), (5779, 5779), (8661, 70002), (70000, 70000)] rfl rfl rfl (by rw [hF]; rfl) ?_
    refine T_keepH [3, 6, 10, 11, 12, 25, 26, 27] [11, 5779, 70000, 70002] rfl rfl rfl rfl (by rw [hF]; rfl) ?_
    refine T_loop ?_
    obtain ⟨u1, hl1, hm⟩ := bindS hm
    refine TR_forL2 o16.kids (m_impl_tree_normal_F_L1 rec_impl_tree_normal) (fun (s1 : List Ptree) => s1) (fun n1 (s1 : List Ptree) => ⟨[(3, .ow 70000), (6, .ptr 5779 0 0), (10, .ow 11), (11, .int .i64 (r10.length : Int)), (12, .int .i64 (n0 : Int)), (25, .sl 1 (List.map a_Ptree o16.kids)), (26, .int .i64 (o16.kids.length : Int)), (27, .int .i64 (n1 : Int))], [(11, .arr ⟨false, false⟩ 1 88 (List.map a_Ptree r10)), (5779, .box [.int .i64 o16.Stmt.Kind, .int .i64 o16.Stmt.Var, .int .i64 o16.Stmt.Event, .int .i64 o16.Stmt.Sum.Const, .sl 1 (List.map a_i64 o16.Stmt.Sum.Coeffs), .int .i64 o16.Stmt.Index.Const, .sl 1 (List.map a_i64 o16.Stmt.Index.Coeffs), .sl 2 (List.map a_Term o16.Stmt.Facts), .int .i64 (0 : Int), .ow 70002]), (70000, .arr ⟨false, false⟩ 1 88 (List.map a_Ptree s0)), (70002, .arr ⟨false, false⟩ 1 88 (List.map a_Ptree s1))]⟩) (fun u1 => .exit 2) (fun u1 => ⟨[(3, .ow 70000), (6, .ptr 5779 0 0), (10, .ow 11), (11, .int .i64 (r10.length : Int)), (12, .int .i64 (n0 : Int))], [(11, .arr ⟨false, false⟩ 1 88 (List.map a_Ptree r10)), (5779, .box [.int .i64 o16.Stmt.Kind, .int .i64 o16.Stmt.Var, .int .i64 o16.Stmt.Event, .int .i64 o16.Stmt.Sum.Const, .sl 1 (List.map a_i64 o16.Stmt.Sum.Coeffs), .int .i64 o16.Stmt.Index.Const, .sl 1 (List.map a_i64 o16.Stmt.Index.Coeffs), .sl 2 (List.map a_Term o16.Stmt.Facts), .int .i64 (0 : Int), .ow 70002]), (70000, .arr ⟨false, false⟩ 1 88 (List.map a_Ptree s0)), (70002, .arr ⟨false, false⟩ 1 88 (List.map a_Ptree u1))]⟩) (fun u1 => m_impl_tree_normal_F_A1 s0 o16 u1 = some c0) hl1 hm (fun u1 hm => ?_) (fun hx1 s1 hm => ?_) (fun hx1 n1 x1 s1 c1 hxn1 hlt1 hm hc1 => ?_)
    · unfold m_impl_tree_normal_F_A1 at hm
      refine T_region ?_
      refine TL_pure rfl rfl rfl rfl (op_move rfl) ?_
      refine TL_pure rfl rfl rfl rfl (op_move rfl) ?_
      refine TL_freeze 70002 (by rw [hF]; rfl) rfl rfl rfl ?_
      refine TL_freezeB 5779 (by rw [hF]; rfl) rfl rfl rfl rfl ?_
      refine TL_trAt 44 (x' := a_Ptree (re_tree (tree.mk o16.Stmt (0 : Int) u1))) rfl (TrR_fold (re_tree_eq (tree.mk o16.Stmt (0 : Int) u1))) rfl ?_
      refine TL_buildSlice 8660 (es := List.map a_Ptree [(re_tree (tree.mk o16.Stmt (0 : Int) u1))]) el129 z88 rfl rfl rfl rfl rfl rfl rfl rfl rfl ?_
      obtain ⟨q46, hq46, hm⟩ := bindS hm
      refine TL_appendT (f := a_Ptree) (a := s0) (b := [(re_tree (tree.mk o16.Stmt (0 : Int) u1))]) el129 z88 rfl rfl rfl rfl rfl rfl rfl (capI_spec hq46) rfl rfl rfl rfl rfl ?_
      refine TL_pure rfl rfl rfl rfl (op_assign rfl) ?_
      refine TL_nil ?_
      refine T_region ?_
      refine TL_pure rfl rfl rfl rfl (op_addN rfl rfl (Nat.lt_of_lt_of_le hlt0 hlen11)) ?_
      refine TL_pure rfl rfl rfl rfl (op_move rfl) ?_
      refine TL_nil ?_
      refine TR_keepH [3, 10, 11, 12] [11, 70000] rfl rfl rfl rfl (by rw [hF]; rfl) ?_
      obtain rfl := someI hm
      have hn := CtlOK_next hc0
      exact hn _ rfl
    · refine T_seq ?_
      refine T_region ?_
      refine TL_pure rfl rfl rfl rfl (op_lss rfl rfl) ?_
      refine TL_nil ?_
      refine T_seq ?_
      refine T_if_false rfl (decide_eq_false (by simp)) ?_
      refine T_keepH [3, 6, 10, 11, 12] [11, 5779, 70000, 70002] rfl rfl rfl rfl (by rw [hF]; rfl) ?_
      refine T_exit ?_
      exact hx1 s1 hm
    · unfold m_impl_tree_normal_F_L1 at hm
      refine T_seq ?_
      refine T_region ?_
      refine TL_pure rfl rfl rfl rfl (op_lss rfl rfl) ?_
      refine TL_nil ?_
      refine T_seq ?_
      refine T_if_true rfl (decide_eq_true (Int.ofNat_lt.2 hlt1)) ?_
      refine T_skip ?_
      refine T_seq ?_
      refine T_block ?_
      refine T_seq ?_
      refine T_region ?_
      refine TL_pure rfl rfl rfl rfl (op_index_sl el129 rfl rfl rfl (get_map hxn1) rfl) ?_
      refine TL_pure rfl rfl rfl rfl (op_load_one ag88 rfl rfl) ?_
      refine TL_pure rfl rfl rfl rfl (op_assign rfl) ?_
      refine TL_nil ?_
      refine T_drawZ [7, 8, 11] mix (by kernel_rfl) rfl ?_
      obtain ⟨r37, hr37, hm⟩ := bindS hm
      obtain ⟨q39, hq39, hm⟩ := bindS hm
      refine TZ_pure 0 (by kernel_rfl) rfl rfl rfl rfl rfl (op_move rfl) ?_
      refine TZ_pure 1 (by kernel_rfl) rfl rfl rfl rfl rfl (op_move rfl) ?_
      refine TZ_pure 2 (by kernel_rfl) rfl rfl rfl rfl rfl (op_nilCheck rfl rfl) ?_
      refine TZ_pure 3 (by kernel_rfl) rfl rfl rfl rfl rfl (op_fieldAddr fa132_2 rfl rfl) ?_
      refine TZ_pure 5 (by kernel_rfl) rfl rfl rfl rfl rfl (op_move rfl) ?_
      refine TZ_cut 6 [true, true, true, true, true, true, false, false, false, false, false, false] ⟨[(3, .ow 70000), (6, .ptr 5779 0 0), (8, a_Ptree x1), (10, .ow 11), (11, .int .i64 (r10.length : Int)), (12, .int .i64 (n0 : Int)), (25, .sl 1 (List.map a_Ptree o16.kids)), (26, .int .i64 (o16.kids.length : Int)), (27, .int .i64 (n1 : Int)), (28, .bool (decide ((n1 : Int) < (o16.kids.length : Int)))), (29, .cp [a_Ptree x1]), (30, a_Ptree x1), (31, .ptr 5779 0 0), (32, .ptr 5779 0 0), (33, .ptr 5779 0 0), (34, .ptr 5779 0 9), (35, .ow 70002), (36, a_Ptree x1)], [(11, .arr ⟨false, false⟩ 1 88 (List.map a_Ptree r10)), (5779, .box [.int .i64 o16.Stmt.Kind, .int .i64 o16.Stmt.Var, .int .i64 o16.Stmt.Event, .int .i64 o16.Stmt.Sum.Const, .sl 1 (List.map a_i64 o16.Stmt.Sum.Coeffs), .int .i64 o16.Stmt.Index.Const, .sl 1 (List.map a_i64 o16.Stmt.Index.Coeffs), .sl 2 (List.map a_Term o16.Stmt.Facts), .int .i64 (0 : Int), .ow 70002]), (70000, .arr ⟨false, false⟩ 1 88 (List.map a_Ptree s0)), (70002, .arr ⟨false, false⟩ 1 88 (List.map a_Ptree s1))]⟩ ?_ (fun hS7699_0 => ?_)
      · refine TZ_one 6 (by kernel_rfl) rfl ?_
        refine TL_callT (hrec_impl_tree_normal x1 r37 hr37) Try.call56 rfl rfl rfl rfl rfl ?_
        refine TL_nil ?_
        refine TZ_one 7 (by kernel_rfl) rfl ?_
        refine TL_buildSlice 8340 (es := List.map a_Ptree [r37]) el129 z88 rfl rfl rfl rfl rfl rfl rfl rfl rfl ?_
        refine TL_nil ?_
        refine TZ_one 8 (by kernel_rfl) rfl ?_
        refine TL_appendT (f := a_Ptree) (a := s1) (b := [r37]) el129 z88 rfl rfl rfl rfl rfl rfl rfl (capI_spec hq39) rfl rfl rfl rfl rfl ?_
        refine TL_nil ?_
        refine TZ_pure 9 (by kernel_rfl) rfl rfl rfl rfl rfl (op_nilCheck rfl rfl) ?_
        refine TZ_pure 10 (by kernel_rfl) rfl rfl rfl rfl rfl (op_fieldAddr fa132_2 rfl rfl) ?_
        refine TZ_one 11 (by kernel_rfl) rfl ?_
        refine TL_store_box sz129 rfl rfl rfl rfl rfl rfl rfl rfl rfl ?_
        refine TL_nil ?_
        refine TZ_done (by kernel_rfl) ?_
        refine T_region ?_
        refine TL_pure rfl rfl rfl rfl (op_addN rfl rfl (Nat.lt_of_lt_of_le hlt1 hlen26)) ?_
        refine TL_pure rfl rfl rfl rfl (op_move rfl) ?_
        refine TL_nil ?_
        refine TR_keepH [3, 6, 10, 11, 12, 25, 26, 27] [11, 5779, 70000, 70002] rfl rfl rfl rfl (by rw [hF]; rfl) ?_
        obtain rfl := someI hm
        have hn := CtlOK_next hc1
        exact hn _ rfl
      refine TZ_cut 5 [true, true, true, true, true, true, true, false, false, false, false, false] ⟨[(3, .ow 70000), (6, .ptr 5779 0 0), (8, a_Ptree x1), (10, .ow 11), (11, .int .i64 (r10.length : Int)), (12, .int .i64 (n0 : Int)), (25, .sl 1 (List.map a_Ptree o16.kids)), (26, .int .i64 (o16.kids.length : Int)), (27, .int .i64 (n1 : Int)), (28, .bool (decide ((n1 : Int) < (o16.kids.length : Int)))), (29, .cp [a_Ptree x1]), (30, a_Ptree x1), (31, .ptr 5779 0 0), (32, .ptr 5779 0 0), (33, .ptr 5779 0 0), (34, .ptr 5779 0 9), (35, .ow 70002), (36, a_Ptree x1), (37, a_Ptree r37)], [(11, .arr ⟨false, false⟩ 1 88 (List.map a_Ptree r10)), (5779, .box [.int .i64 o16.Stmt.Kind, .int .i64 o16.Stmt.Var, .int .i64 o16.Stmt.Event, .int .i64 o16.Stmt.Sum.Const, .sl 1 (List.map a_i64 o16.Stmt.Sum.Coeffs), .int .i64 o16.Stmt.Index.Const, .sl 1 (List.map a_i64 o16.Stmt.Index.Coeffs), .sl 2 (List.map a_Term o16.Stmt.Facts), .int .i64 (0 : Int), .ow 70002]), (70000, .arr ⟨false, false⟩ 1 88 (List.map a_Ptree s0)), (70002, .arr ⟨false, false⟩ 1 88 (List.map a_Ptree s1))]⟩ ?_ (fun hS7699_1 => ?_)
      · refine TZ_one 7 (by kernel_rfl) rfl ?_
        refine TL_buildSlice 8340 (es := List.map a_Ptree [r37]) el129 z88 rfl rfl rfl rfl rfl rfl rfl rfl rfl ?_
        refine TL_nil ?_
        refine TZ_one 8 (by kernel_rfl) rfl ?_
        refine TL_appendT (f := a_Ptree) (a := s1) (b := [r37]) el129 z88 rfl rfl rfl rfl rfl rfl rfl (capI_spec hq39) rfl rfl rfl rfl rfl ?_
        refine TL_nil ?_
        refine TZ_pure 9 (by kernel_rfl) rfl rfl rfl rfl rfl (op_nilCheck rfl rfl) ?_
        refine TZ_pure 10 (by kernel_rfl) rfl rfl rfl rfl rfl (op_fieldAddr fa132_2 rfl rfl) ?_
        refine TZ_one 11 (by kernel_rfl) rfl ?_
        refine TL_store_box sz129 rfl rfl rfl rfl rfl rfl rfl rfl rfl ?_
        refine TL_nil ?_
        refine TZ_done (by kernel_rfl) ?_
        refine T_region ?_
        refine TL_pure rfl rfl rfl rfl (op_addN rfl rfl (Nat.lt_of_lt_of_le hlt1 hlen26)) ?_
        refine TL_pure rfl rfl rfl rfl (op_move rfl) ?_
        refine TL_nil ?_
        refine TR_keepH [3, 6, 10, 11, 12, 25, 26, 27] [11, 5779, 70000, 70002] rfl rfl rfl rfl (by rw [hF]; rfl) ?_
        obtain rfl := someI hm
        have hn := CtlOK_next hc1
        exact hn _ rfl
      refine TZ_cut 5 [true, true, true, true, false, true, true, true, false, false, false, false] ⟨[(3, .ow 70000), (6, .ptr 5779 0 0), (8, a_Ptree x1), (10, .ow 11), (11, .int .i64 (r10.length : Int)), (12, .int .i64 (n0 : Int)), (25, .sl 1 (List.map a_Ptree o16.kids)), (26, .int .i64 (o16.kids.length : Int)), (27, .int .i64 (n1 : Int)), (28, .bool (decide ((n1 : Int) < (o16.kids.length : Int)))), (29, .cp [a_Ptree x1]), (30, a_Ptree x1), (31, .ptr 5779 0 0), (32, .ptr 5779 0 0), (33, .ptr 5779 0 0), (34, .ptr 5779 0 9), (36, a_Ptree x1), (37, a_Ptree r37), (38, .ow 8340)], [(11, .arr ⟨false, false⟩ 1 88 (List.map a_Ptree r10)), (5779, .box [.int .i64 o16.Stmt.Kind, .int .i64 o16.Stmt.Var, .int .i64 o16.Stmt.Event, .int .i64 o16.Stmt.Sum.Const, .sl 1 (List.map a_i64 o16.Stmt.Sum.Coeffs), .int .i64 o16.Stmt.Index.Const, .sl 1 (List.map a_i64 o16.Stmt.Index.Coeffs), .sl 2 (List.map a_Term o16.Stmt.Facts), .int .i64 (0 : Int), .ow 70002]), (8340, .arr ⟨false, false⟩ 1 88 (List.map a_Ptree [r37])), (70000, .arr ⟨false, false⟩ 1 88 (List.map a_Ptree s0)), (70002, .arr ⟨false, false⟩ 1 88 (List.map a_Ptree s1))]⟩ ?_ (fun hS7699_2 => ?_)
      · refine TZ_pure 4 (by kernel_rfl) rfl rfl rfl rfl rfl (op_load_one ag129 rfl rfl) ?_
        refine TZ_one 8 (by kernel_rfl) rfl ?_
        refine TL_appendT (f := a_Ptree) (a := s1) (b := [r37]) el129 z88 rfl rfl rfl rfl rfl rfl rfl (capI_spec hq39) rfl rfl rfl rfl rfl ?_
        refine TL_nil ?_
        refine TZ_pure 9 (by kernel_rfl) rfl rfl rfl rfl rfl (op_nilCheck rfl rfl) ?_
        refine TZ_pure 10 (by kernel_rfl) rfl rfl rfl rfl rfl (op_fieldAddr fa132_2 rfl rfl) ?_
        refine TZ_one 11 (by kernel_rfl) rfl ?_
        refine TL_store_box sz129 rfl rfl rfl rfl rfl rfl rfl rfl rfl ?_
        refine TL_nil ?_
        refine TZ_done (by kernel_rfl) ?_
        refine T_region ?_
        refine TL_pure rfl rfl rfl rfl (op_addN rfl rfl (Nat.lt_of_lt_of_le hlt1 hlen26)) ?_
        refine TL_pure rfl rfl rfl rfl (op_move rfl) ?_
        refine TL_nil ?_
        refine TR_keepH [3, 6, 10, 11, 12, 25, 26, 27] [11, 5779, 70000, 70002] rfl rfl rfl rfl (by rw [hF]; rfl) ?_
        obtain rfl := someI hm
        have hn := CtlOK_next hc1
        exact hn _ rfl
      refine TZ_cut 6 [true, true, true, true, false, true, true, false, false, false, false, false] ⟨[(3, .ow 70000), (6, .ptr 5779 0 0), (8, a_Ptree x1), (10, .ow 11), (11, .int .i64 (r10.length : Int)), (12, .int .i64 (n0 : Int)), (25, .sl 1 (List.map a_Ptree o16.kids)), (26, .int .i64 (o16.kids.length : Int)), (27, .int .i64 (n1 : Int)), (28, .bool (decide ((n1 : Int) < (o16.kids.length : Int)))), (29, .cp [a_Ptree x1]), (30, a_Ptree x1), (31, .ptr 5779 0 0), (32, .ptr 5779 0 0), (33, .ptr 5779 0 0), (34, .ptr 5779 0 9), (36, a_Ptree x1), (37, a_Ptree r37)], [(11, .arr ⟨false, false⟩ 1 88 (List.map a_Ptree r10)), (5779, .box [.int .i64 o16.Stmt.Kind, .int .i64 o16.Stmt.Var, .int .i64 o16.Stmt.Event, .int .i64 o16.Stmt.Sum.Const, .sl 1 (List.map a_i64 o16.Stmt.Sum.Coeffs), .int .i64 o16.Stmt.Index.Const, .sl 1 (List.map a_i64 o16.Stmt.Index.Coeffs), .sl 2 (List.map a_Term o16.Stmt.Facts), .int .i64 (0 : Int), .ow 70002]), (70000, .arr ⟨false, false⟩ 1 88 (List.map a_Ptree s0)), (70002, .arr ⟨false, false⟩ 1 88 (List.map a_Ptree s1))]⟩ ?_ (fun hS7699_3 => ?_)
      · refine TZ_each [4, 7] (by kernel_rfl) rfl ?_
        refine ⟨?_, ?_⟩
        · refine ⟨_, rfl, ?_⟩
          refine TL_pure rfl rfl rfl rfl (op_load_one ag129 rfl rfl) ?_
          refine TL_nil ?_
          refine TZ_keepH [3, 6, 8, 10, 11, 12, 25, 26, 27, 28, 29, 30, 31, 32, 33, 34, 35, 36, 37] [11, 5779, 70000, 70002] rfl rfl rfl rfl (by rw [hF]; rfl) ?_
          exact hS7699_1
        · refine ⟨_, rfl, ?_⟩
          refine TL_buildSlice 8340 (es := List.map a_Ptree [r37]) el129 z88 rfl rfl rfl rfl rfl rfl rfl rfl rfl ?_
          refine TL_nil ?_
          refine TZ_keepH [3, 6, 8, 10, 11, 12, 25, 26, 27, 28, 29, 30, 31, 32, 33, 34, 36, 37, 38] [11, 5779, 8340, 70000, 70002] rfl rfl rfl rfl (by rw [hF]; rfl) ?_
          exact hS7699_2
      refine TZ_each [4, 6] (by kernel_rfl) rfl ?_
      refine ⟨?_, ?_⟩
      · refine ⟨_, rfl, ?_⟩
        refine TL_pure rfl rfl rfl rfl (op_load_one ag129 rfl rfl) ?_
        refine TL_nil ?_
        refine TZ_keepH [3, 6, 8, 10, 11, 12, 25, 26, 27, 28, 29, 30, 31, 32, 33, 34, 35, 36] [11, 5779, 70000, 70002] rfl rfl rfl rfl (by rw [hF]; rfl) ?_
        exact hS7699_0
      · refine ⟨_, rfl, ?_⟩
        refine TL_callT (hrec_impl_tree_normal x1 r37 hr37) Try.call56 rfl rfl rfl rfl rfl ?_
        refine TL_nil ?_
        refine TZ_keepH [3, 6, 8, 10, 11, 12, 25, 26, 27, 28, 29, 30, 31, 32, 33, 34, 36, 37] [11, 5779, 70000, 70002] rfl rfl rfl rfl (by rw [hF]; rfl) ?_
        exact hS7699_3
theorem c_impl_tree_normal : ∀ (n : Nat) (p0 : Ptree) (out : Ptree), m_impl_tree_normal n p0 = some out → ACall Try.prog 56 [a_Ptree p0] [] (a_Ptree out) [] := by
  intro n
  induction n with
  | zero => intro p0 out hm; cases hm
  | succ n ih => intro p0 out hm; exact c_impl_tree_normal_F (m_impl_tree_normal n) ih p0 out hm
theorem c_impl_copyInts (p0 : List Int) (out : List Int) (hm : m_impl_copyInts p0 = some out) : ACall Try.prog 116 [.sl 1 (List.map a_i64 p0)] [] (.ow 1000) [(1000, .arr ⟨false, true⟩ 1 2 (List.map a_i64 out))] := by
  refine ACall.intro Try.func116 rfl Try.ntmps116 rfl (fun F hF => ?_)
  unfold m_impl_copyInts at hm
  refine T_seq ?_
  refine T_region ?_
  refine TL_pure rfl rfl rfl rfl (op_assign rfl) ?_
  refine TL_nil ?_
  refine T_seq ?_
  refine T_region ?_
  refine TL_buildSlice 11 (es := List.map a_i64 ([] : List Int)) el29 z2 rfl rfl rfl rfl rfl rfl rfl rfl rfl ?_
  refine TL_pure rfl rfl rfl rfl (op_move rfl) ?_
  obtain ⟨q5, hq5, hm⟩ := bindS hm
  refine TL_appendT (f := a_i64) (a := ([] : List Int)) (b := p0) el29 z2 rfl rfl rfl rfl rfl rfl rfl (capI_spec hq5) rfl rfl rfl rfl rfl ?_
  refine TL_pure rfl rfl rfl rfl (op_assign rfl) ?_
  refine TL_nil ?_
  refine T_keepH [2] [11] rfl rfl rfl rfl (by rw [hF]; rfl) ?_
  refine T_deepen 11 (p' := false) (List.map a_i64 (([] : List Int) ++ p0)) (by rw [hF]; rfl) rfl (ElR.map (f := a_i64) (g := a_i64) (fun _ => ⟨⟨rfl, rfl⟩, trivial⟩) (([] : List Int) ++ p0)) rfl rfl rfl ?_
  refine T_ren [(11, 1000)] rfl rfl rfl (by rw [hF]; rfl) ?_
  refine T_ret ?_
  obtain rfl := someI hm
  refine ⟨[_], [1000], ⟨rfl, trivial⟩, ?_, rfl, rfl, rfl, rfl⟩
  rfl
theorem c_impl_Term_own (p0 : Term) (out : Term) (hm : m_impl_Term_own p0 = some out) : ACall Try.prog 87 [.agg [.int .i64 p0.Const, .sl 1 (List.map a_i64 p0.Coeffs)]] [] (.agg [.int .i64 out.Const, .ow 1000]) [(1000, .arr ⟨false, true⟩ 1 2 (List.map a_i64 out.Coeffs))] := by
  refine ACall.intro Try.func87 rfl Try.ntmps87 rfl (fun F hF => ?_)
  unfold m_impl_Term_own at hm
  refine T_seq ?_
  refine T_region ?_
  refine TL_box 11 rfl rfl rfl rfl rfl rfl rfl ?_
  refine TL_alloc 12 z75 rfl rfl rfl rfl rfl rfl rfl ?_
  refine TL_nil ?_
  refine T_seq ?_
  refine T_drawZ [6] mix (by kernel_rfl) rfl ?_
  obtain ⟨r7, hr7, hm⟩ := bindS hm
  refine TZ_pure 0 (by kernel_rfl) rfl rfl rfl rfl rfl (op_fieldAddr fa75_0 rfl rfl) ?_
  refine TZ_pure 1 (by kernel_rfl) rfl rfl rfl rfl rfl (op_load_one ag2 rfl rfl) ?_
  refine TZ_pure 2 (by kernel_rfl) rfl rfl rfl rfl rfl (op_fieldAddr fa75_1 rfl rfl) ?_
  refine TZ_pure 3 (by kernel_rfl) rfl rfl rfl rfl rfl (op_load_one ag29 rfl rfl) ?_
  refine TZ_one 4 (by kernel_rfl) rfl ?_
  refine TL_callO [(1000, 14)] (c_impl_copyInts p0.Coeffs r7 hr7) Try.call116 rfl rfl rfl rfl rfl rfl rfl rfl rfl rfl rfl rfl rfl ?_
  refine TL_nil ?_
  refine TZ_pure 5 (by kernel_rfl) rfl rfl rfl rfl rfl (op_buildP pl75 z75 rfl rfl rfl rfl rfl) ?_
  refine TZ_one 6 (by kernel_rfl) rfl ?_
  refine TL_store_box sz75 rfl rfl rfl rfl rfl rfl rfl rfl rfl ?_
  refine TL_nil ?_
  refine TZ_done (by kernel_rfl) ?_
  refine T_keepH [2] [12, 14] rfl rfl rfl rfl (by rw [hF]; rfl) ?_
  refine T_ren [(12, 12), (14, 1000)] rfl rfl rfl (by rw [hF]; rfl) ?_
  refine T_ret ?_
  obtain rfl := someI hm
  refine ⟨[_], [1000], ⟨⟨_, _, rfl, rfl, .inr ⟨ag75, _, _, sz75, rfl, rfl⟩⟩, trivial⟩, ?_, rfl, rfl, rfl, rfl⟩
  rfl
theorem c_impl_ownTerms (p0 : List Term) (out : List Term) (hm : m_impl_ownTerms p0 = some out) : ACall Try.prog 48 [.sl 2 (List.map a_Term p0)] [] (.ow 1000) [(1000, .arr ⟨false, true⟩ 2 75 (List.map a_Term out))] := by
  refine ACall.intro Try.func48 rfl Try.ntmps48 rfl (fun F hF => ?_)
  unfold m_impl_ownTerms at hm
  refine T_seq ?_
  refine T_region ?_
  refine TL_pure rfl rfl rfl rfl (op_assign rfl) ?_
  refine TL_nil ?_
  refine T_seq ?_
  refine T_region ?_
  refine TL_pure rfl rfl rfl rfl (op_assign rfl) ?_
  refine TL_nil ?_
  refine T_seq ?_
  refine T_seq ?_
  refine T_region ?_
  refine TL_pure rfl rfl rfl rfl (op_move rfl) ?_
  refine TL_pure rfl rfl rfl rfl (op_lenT Try.underlying24 rfl (List.length_map _)) ?_
  refine TL_fact (fun _ _ _ hr => RelP.slLen (i := 6) rfl hr) (fun hlen7 => ?_)
  rw [List.length_map] at hlen7
  refine TL_pure rfl rfl rfl rfl (op_move rfl) ?_
  refine TL_nil ?_
  refine T_block ?_
  refine T_ownNil 3 21 ⟨false, true⟩ 75 rfl rfl (sz := 2) rfl rfl rfl ?_
  refine T_keepH [3, 6, 7, 8] [21] rfl rfl rfl rfl (by rw [hF]; rfl) ?_
  refine T_ren [(21, 70000)] rfl rfl rfl (by rw [hF]; rfl) ?_
  refine T_loop ?_
  obtain ⟨u0, hl0, hm⟩ := bindS hm
  refine TR_forL2 p0 (m_impl_ownTerms_L0) (fun (s0 : List Term) => s0) (fun n0 (s0 : List Term) => ⟨[(3, .ow 70000), (6, .sl 2 (List.map a_Term p0)), (7, .int .i64 (p0.length : Int)), (8, .int .i64 (n0 : Int))], [(70000, .arr ⟨false, true⟩ 2 75 (List.map a_Term s0))]⟩) (fun u0 => .exit 0) (fun u0 => ⟨[(3, .ow 70000)], [(70000, .arr ⟨false, true⟩ 2 75 (List.map a_Term u0))]⟩) (fun u0 => m_impl_ownTerms_A0 u0 = some out) hl0 hm (fun u0 hm => ?_) (fun hx0 s0 hm => ?_) (fun hx0 n0 x0 s0 c0 hxn0 hlt0 hm hc0 => ?_)
  · unfold m_impl_ownTerms_A0 at hm
    refine T_seq ?_
    refine T_region ?_
    refine TL_pure rfl rfl rfl rfl (op_move rfl) ?_
    refine TL_pure rfl rfl rfl rfl (op_assign rfl) ?_
    refine TL_nil ?_
    refine T_keepH [2] [70000] rfl rfl rfl rfl (by rw [hF]; rfl) ?_
    refine T_ren [(70000, 1000)] rfl rfl rfl (by rw [hF]; rfl) ?_
    refine T_ret ?_
    obtain rfl := someI hm
    refine ⟨[_], [1000], ⟨rfl, trivial⟩, ?_, rfl, rfl, rfl, rfl⟩
    rfl
  · refine T_seq ?_
    refine T_region ?_
    refine TL_pure rfl rfl rfl rfl (op_lss rfl rfl) ?_
    refine TL_nil ?_
    refine T_seq ?_
    refine T_if_false rfl (decide_eq_false (by simp)) ?_
    refine T_keepH [3] [70000] rfl rfl rfl rfl (by rw [hF]; rfl) ?_
    refine T_exit ?_
    exact hx0 s0 hm
  · unfold m_impl_ownTerms_L0 at hm
    refine T_seq ?_
    refine T_region ?_
    refine TL_pure rfl rfl rfl rfl (op_lss rfl rfl) ?_
    refine TL_nil ?_
    refine T_seq ?_
    refine T_if_true rfl (decide_eq_true (Int.ofNat_lt.2 hlt0)) ?_
    refine T_skip ?_
    refine T_seq ?_
    refine T_block ?_
    refine T_seq ?_
    refine T_region ?_
    refine TL_pure rfl rfl rfl rfl (op_index_sl el24 rfl rfl rfl (get_map hxn0) rfl) ?_
    refine TL_pure rfl rfl rfl rfl (op_load_agg ag75 sz75 rfl rfl rfl) ?_
    refine TL_alloc 18 z75 rfl rfl rfl rfl rfl rfl rfl ?_
    refine TL_store_box sz75 rfl rfl rfl rfl rfl rfl rfl rfl rfl ?_
    refine TL_nil ?_
    refine T_region ?_
    refine TL_pure rfl rfl rfl rfl (op_move rfl) ?_
    refine TL_pure rfl rfl rfl rfl (op_load_agg ag75 sz75 rfl rfl rfl) ?_
    obtain ⟨r14, hr14, hm⟩ := bindS hm
    refine TL_callO [(1000, 19)] (c_impl_Term_own x0 r14 hr14) Try.call87 rfl rfl rfl rfl rfl rfl rfl rfl rfl rfl rfl rfl rfl ?_
    refine TL_buildSliceD (ids := [19]) (es := List.map a_Term [r14]) 20 el24 z75 rfl rfl rfl rfl rfl rfl (by rw [hF]; intro j hj; simp only [List.mem_cons, List.not_mem_nil, or_false] at hj; rcases hj with rfl <;> rfl) rfl rfl rfl rfl rfl rfl ?_
    obtain ⟨q16, hq16, hm⟩ := bindS hm
    refine TL_appendDT (f := a_Term) (a := s0) (b := [r14]) el24 z75 rfl rfl rfl rfl rfl rfl rfl rfl (by rw [hF]; rfl) (capI_spec hq16) rfl rfl rfl rfl rfl ?_
    refine TL_pure rfl rfl rfl rfl (op_assign rfl) ?_
    refine TL_nil ?_
    refine T_region ?_
    refine TL_pure rfl rfl rfl rfl (op_addN rfl rfl (Nat.lt_of_lt_of_le hlt0 hlen7)) ?_
    refine TL_pure rfl rfl rfl rfl (op_move rfl) ?_
    refine TL_nil ?_
    refine TR_keepH [3, 6, 7, 8] [70000] rfl rfl rfl rfl (by rw [hF]; rfl) ?_
    obtain rfl := someI hm
    have hn := CtlOK_next hc0
    exact hn _ rfl
theorem c_impl_ownStmt (p0 : Stmt) (out : Stmt) (hm : m_impl_ownStmt p0 = some out) : ACall Try.prog 47 [.agg [.int .i64 p0.Kind, .int .i64 p0.Var, .int .i64 p0.Event, .int .i64 p0.Sum.Const, .sl 1 (List.map a_i64 p0.Sum.Coeffs), .int .i64 p0.Index.Const, .sl 1 (List.map a_i64 p0.Index.Coeffs), .sl 2 (List.map a_Term p0.Facts)]] [] (.agg [.int .i64 out.Kind, .int .i64 out.Var, .int .i64 out.Event, .int .i64 out.Sum.Const, .ow 1000, .int .i64 out.Index.Const, .ow 1001, .ow 1002]) [(1000, .arr ⟨false, true⟩ 1 2 (List.map a_i64 out.Sum.Coeffs)), (1001, .arr ⟨false, true⟩ 1 2 (List.map a_i64 out.Index.Coeffs)), (1002, .arr ⟨false, true⟩ 2 75 (List.map a_Term out.Facts))] := by
  refine ACall.intro Try.func47 rfl Try.ntmps47 rfl (fun F hF => ?_)
  unfold m_impl_ownStmt at hm
  refine T_seq ?_
  refine T_region ?_
  refine TL_box 11 rfl rfl rfl rfl rfl rfl rfl ?_
  refine TL_alloc 12 z77 rfl rfl rfl rfl rfl rfl rfl ?_
  refine TL_nil ?_
  refine T_seq ?_
  refine T_drawZ [10, 12, 14] mix (by kernel_rfl) rfl ?_
  obtain ⟨r5, hr5, hm⟩ := bindS hm
  obtain ⟨r8, hr8, hm⟩ := bindS hm
  obtain ⟨r11, hr11, hm⟩ := bindS hm
  refine TZ_pure 0 (by kernel_rfl) rfl rfl rfl rfl rfl (op_fieldAddr fa77_3 rfl rfl) ?_
  refine TZ_pure 1 (by kernel_rfl) rfl rfl rfl rfl rfl (op_load_agg ag75 sz75 rfl rfl rfl) ?_
  refine TZ_pure 3 (by kernel_rfl) rfl rfl rfl rfl rfl (op_fieldAddr fa77_4 rfl rfl) ?_
  refine TZ_pure 4 (by kernel_rfl) rfl rfl rfl rfl rfl (op_load_agg ag75 sz75 rfl rfl rfl) ?_
  refine TZ_pure 6 (by kernel_rfl) rfl rfl rfl rfl rfl (op_fieldAddr fa77_5 rfl rfl) ?_
  refine TZ_pure 7 (by kernel_rfl) rfl rfl rfl rfl rfl (op_load_one ag24 rfl rfl) ?_
  refine TZ_one 2 (by kernel_rfl) rfl ?_
  refine TL_callO [(1000, 16)] (c_impl_Term_own p0.Sum r5 hr5) Try.call87 rfl rfl rfl rfl rfl rfl rfl rfl rfl rfl rfl rfl rfl ?_
  refine TL_nil ?_
  refine TZ_pure 9 (by kernel_rfl) rfl rfl rfl rfl rfl (op_fieldAddr fa77_3 rfl rfl) ?_
  refine TZ_one 5 (by kernel_rfl) rfl ?_
  refine TL_callO [(1000, 17)] (c_impl_Term_own p0.Index r8 hr8) Try.call87 rfl rfl rfl rfl rfl rfl rfl rfl rfl rfl rfl rfl rfl ?_
  refine TL_nil ?_
  refine TZ_one 8 (by kernel_rfl) rfl ?_
  refine TL_callO [(1000, 18)] (c_impl_ownTerms p0.Facts r11 hr11) Try.call48 rfl rfl rfl rfl rfl rfl rfl rfl rfl rfl rfl rfl rfl ?_
  refine TL_nil ?_
  refine TZ_one 10 (by kernel_rfl) rfl ?_
  refine TL_store_box sz75 rfl rfl rfl rfl rfl rfl rfl rfl rfl ?_
  refine TL_nil ?_
  refine TZ_pure 11 (by kernel_rfl) rfl rfl rfl rfl rfl (op_fieldAddr fa77_4 rfl rfl) ?_
  refine TZ_one 12 (by kernel_rfl) rfl ?_
  refine TL_store_box sz75 rfl rfl rfl rfl rfl rfl rfl rfl rfl ?_
  refine TL_nil ?_
  refine TZ_pure 13 (by kernel_rfl) rfl rfl rfl rfl rfl (op_fieldAddr fa77_5 rfl rfl) ?_
  refine TZ_one 14 (by kernel_rfl) rfl ?_
  refine TL_store_box sz24 rfl rfl rfl rfl rfl rfl rfl rfl rfl ?_
  refine TL_nil ?_
  refine TZ_done (by kernel_rfl) ?_
  refine T_seq ?_
  refine T_region ?_
  refine TL_pure rfl rfl rfl rfl (op_load_agg ag77 sz77 rfl rfl rfl) ?_
  refine TL_store_box sz77 rfl rfl rfl rfl rfl rfl rfl rfl rfl ?_
  refine TL_nil ?_
  refine T_keepH [2] [12, 16, 17, 18] rfl rfl rfl rfl (by rw [hF]; rfl) ?_
  refine T_ren [(12, 12), (16, 1000), (17, 1001), (18, 1002)] rfl rfl rfl (by rw [hF]; rfl) ?_
  refine T_ret ?_
  obtain rfl := someI hm
  refine ⟨[_], [1000, 1001, 1002], ⟨⟨_, _, rfl, rfl, .inr ⟨ag77, _, _, sz77, rfl, rfl⟩⟩, trivial⟩, ?_, rfl, rfl, rfl, rfl⟩
  rfl
theorem c_impl_tree_body_F (rec_impl_tree_body : Ptree → Option (List Stmt)) (hrec_impl_tree_body : ∀ (p0 : Ptree) (out : List Stmt), rec_impl_tree_body p0 = some out → ACall Try.prog 57 [a_Ptree p0] [] (.ow 1000) [(1000, .arr ⟨false, true⟩ 8 77 (List.map a_Stmt out))]) (p0 : Ptree) (out : List Stmt) (hm : m_impl_tree_body_F rec_impl_tree_body p0 = some out) : ACall Try.prog 57 [a_Ptree p0] [] (.ow 1000) [(1000, .arr ⟨false, true⟩ 8 77 (List.map a_Stmt out))] := by
  refine ACall.intro Try.func57 rfl Try.ntmps57 rfl (fun F hF => ?_)
  unfold m_impl_tree_body_F at hm
  refine T_seq ?_
  refine T_region ?_
  refine TL_pure rfl rfl rfl rfl (op_assign rfl) ?_
  refine TL_nil ?_
  refine T_seq ?_
  refine T_region ?_
  refine TL_pure rfl rfl rfl rfl (op_move rfl) ?_
  obtain ⟨o6, ho6, hm⟩ := bindS hm
  refine TL_trAt 6 (x' := .cp [.int .i64 o6.Stmt.Kind, .int .i64 o6.Stmt.Var, .int .i64 o6.Stmt.Event, .int .i64 o6.Stmt.Sum.Const, .sl 1 (List.map a_i64 o6.Stmt.Sum.Coeffs), .int .i64 o6.Stmt.Index.Const, .sl 1 (List.map a_i64 o6.Stmt.Index.Coeffs), .sl 2 (List.map a_Term o6.Stmt.Facts), .int .i64 o6.at_, .sl 1 (List.map a_Ptree o6.kids)]) rfl (TrR_open (un_tree_eq ho6)) rfl ?_
  refine TL_pure rfl rfl rfl rfl (op_nilCheck rfl rfl) ?_
  refine TL_pure rfl rfl rfl rfl (op_fieldAddrC (n := 8) fa132_0 rfl rfl rfl) ?_
  refine TL_pure rfl rfl rfl rfl (op_load_agg ag77 sz77 rfl rfl rfl) ?_
  obtain ⟨r10, hr10, hm⟩ := bindS hm
  refine TL_callO [(1000, 11), (1001, 12), (1002, 13)] (c_impl_ownStmt o6.Stmt r10 hr10) Try.call47 rfl rfl rfl rfl rfl rfl rfl rfl rfl rfl rfl rfl rfl ?_
  refine TL_buildSliceD (ids := [11, 12, 13]) (es := List.map a_Stmt [r10]) 14 el25 z77 rfl rfl rfl rfl rfl rfl (by rw [hF]; intro j hj; simp only [List.mem_cons, List.not_mem_nil, or_false] at hj; rcases hj with rfl | rfl | rfl <;> rfl) rfl rfl rfl rfl rfl rfl ?_
  refine TL_pure rfl rfl rfl rfl (op_assign rfl) ?_
  refine TL_nil ?_
  refine T_seq ?_
  refine T_seq ?_
  refine T_region ?_
  refine TL_pure rfl rfl rfl rfl (op_move rfl) ?_
  refine TL_trAt 12 (x' := .cp [.int .i64 o6.Stmt.Kind, .int .i64 o6.Stmt.Var, .int .i64 o6.Stmt.Event, .int .i64 o6.Stmt.Sum.Const, .sl 1 (List.map a_i64 o6.Stmt.Sum.Coeffs), .int .i64 o6.Stmt.Index.Const, .sl 1 (List.map a_i64 o6.Stmt.Index.Coeffs), .sl 2 (List.map a_Term o6.Stmt.Facts), .int .i64 o6.at_, .sl 1 (List.map a_Ptree o6.kids)]) rfl (TrR_open (un_tree_eq ho6)) rfl ?_
  refine TL_pure rfl rfl rfl rfl (op_nilCheck rfl rfl) ?_
  refine TL_pure rfl rfl rfl rfl (op_fieldAddr fa132_2 rfl rfl) ?_
  refine TL_pure rfl rfl rfl rfl (op_load_one ag129 rfl rfl) ?_
  refine TL_pure rfl rfl rfl rfl (op_lenT Try.underlying129 rfl (List.length_map _)) ?_
  refine TL_fact (fun _ _ _ hr => RelP.slLen (i := 15) rfl hr) (fun hlen16 => ?_)
  rw [List.length_map] at hlen16
  refine TL_pure rfl rfl rfl rfl (op_move rfl) ?_
  refine TL_nil ?_
  refine T_block ?_
  refine T_keepH [3, 15, 16, 17] [14] rfl rfl rfl rfl (by rw [hF]; rfl) ?_
  refine T_loop ?_
  obtain ⟨u0, hl0, hm⟩ := bindS hm
  refine TR_forL2 o6.kids (m_impl_tree_body_F_L0 rec_impl_tree_body) (fun (s0 : List Stmt) => s0) (fun n0 (s0 : List Stmt) => ⟨[(3, .ow 14), (15, .sl 1 (List.map a_Ptree o6.kids)), (16, .int .i64 (o6.kids.length : Int)), (17, .int .i64 (n0 : Int))], [(14, .arr ⟨false, true⟩ 8 77 (List.map a_Stmt s0))]⟩) (fun u0 => .exit 0) (fun u0 => ⟨[(3, .ow 14)], [(14, .arr ⟨false, true⟩ 8 77 (List.map a_Stmt u0))]⟩) (fun u0 => m_impl_tree_body_F_A0 u0 = some out) hl0 hm (fun u0 hm => ?_) (fun hx0 s0 hm => ?_) (fun hx0 n0 x0 s0 c0 hxn0 hlt0 hm hc0 => ?_)
  · unfold m_impl_tree_body_F_A0 at hm
    refine T_seq ?_
    refine T_region ?_
    refine TL_pure rfl rfl rfl rfl (op_move rfl) ?_
    refine TL_pure rfl rfl rfl rfl (op_assign rfl) ?_
    refine TL_nil ?_
    refine T_keepH [2] [14] rfl rfl rfl rfl (by rw [hF]; rfl) ?_
    refine T_ren [(14, 1000)] rfl rfl rfl (by rw [hF]; rfl) ?_
    refine T_ret ?_
    obtain rfl := someI hm
    refine ⟨[_], [1000], ⟨rfl, trivial⟩, ?_, rfl, rfl, rfl, rfl⟩
    rfl
  · refine T_seq ?_
    refine T_region ?_
    refine TL_pure rfl rfl rfl rfl (op_lss rfl rfl) ?_
    refine TL_nil ?_
    refine T_seq ?_
    refine T_if_false rfl (decide_eq_false (by simp)) ?_
    refine T_keepH [3] [14] rfl rfl rfl rfl (by rw [hF]; rfl) ?_
    refine T_exit ?_
    exact hx0 s0 hm
  · unfold m_impl_tree_body_F_L0 at hm
    refine T_seq ?_
    refine T_region ?_
    refine TL_pure rfl rfl rfl rfl (op_lss rfl rfl) ?_
    refine TL_nil ?_
    refine T_seq ?_
    refine T_if_true rfl (decide_eq_true (Int.ofNat_lt.2 hlt0)) ?_
    refine T_skip ?_
    refine T_seq ?_
    refine T_block ?_
    refine T_seq ?_
    refine T_region ?_
    refine TL_pure rfl rfl rfl rfl (op_index_sl el129 rfl rfl rfl (get_map hxn0) rfl) ?_
    refine TL_pure rfl rfl rfl rfl (op_load_one ag88 rfl rfl) ?_
    refine TL_pure rfl rfl rfl rfl (op_assign rfl) ?_
    refine TL_nil ?_
    refine T_region ?_
    refine TL_pure rfl rfl rfl rfl (op_move rfl) ?_
    refine TL_pure rfl rfl rfl rfl (op_move rfl) ?_
    obtain ⟨r23, hr23, hm⟩ := bindS hm
    refine TL_callO [(1000, 17)] (hrec_impl_tree_body x0 r23 hr23) Try.call57 rfl rfl rfl rfl rfl rfl rfl rfl rfl rfl rfl rfl rfl ?_
    obtain ⟨q24, hq24, hm⟩ := bindS hm
    refine TL_appendDT (f := a_Stmt) (a := s0) (b := r23) el25 z77 rfl rfl rfl rfl rfl rfl rfl rfl (by rw [hF]; rfl) (capI_spec hq24) rfl rfl rfl rfl rfl ?_
    refine TL_pure rfl rfl rfl rfl (op_assign rfl) ?_
    refine TL_nil ?_
    refine T_region ?_
    refine TL_pure rfl rfl rfl rfl (op_addN rfl rfl (Nat.lt_of_lt_of_le hlt0 hlen16)) ?_
    refine TL_pure rfl rfl rfl rfl (op_move rfl) ?_
    refine TL_nil ?_
    refine TR_keepH [3, 15, 16, 17] [14] rfl rfl rfl rfl (by rw [hF]; rfl) ?_
    obtain rfl := someI hm
    have hn := CtlOK_next hc0
    exact hn _ rfl
theorem c_impl_tree_body : ∀ (n : Nat) (p0 : Ptree) (out : List Stmt), m_impl_tree_body n p0 = some out → ACall Try.prog 57 [a_Ptree p0] [] (.ow 1000) [(1000, .arr ⟨false, true⟩ 8 77 (List.map a_Stmt out))] := by
  intro n
  induction n with
  | zero => intro p0 out hm; cases hm
  | succ n ih => intro p0 out hm; exact c_impl_tree_body_F (m_impl_tree_body n) ih p0 out hm
theorem c_impl_NormalBody (p0 : List Stmt) (out : (List Stmt) × Bool) (hm : m_impl_NormalBody p0 = some out) : ACall Try.prog 24 [.sl 8 (List.map a_Stmt p0)] [] (.tup [.ow 1000, .bool out.2]) [(1000, .arr ⟨false, true⟩ 8 77 (List.map a_Stmt out.1))] := by
  refine ACall.intro Try.func24 rfl Try.ntmps24 rfl (fun F hF => ?_)
  unfold m_impl_NormalBody at hm
  refine T_seq ?_
  refine T_region ?_
  refine TL_pure rfl rfl rfl rfl (op_assign rfl) ?_
  refine TL_pure rfl rfl rfl rfl (op_assign rfl) ?_
  refine TL_nil ?_
  refine T_seq ?_
  refine T_region ?_
  refine TL_pure rfl rfl rfl rfl (op_move rfl) ?_
  obtain ⟨r8, hr8, hm⟩ := bindS hm
  refine TL_callT (c_impl_treeOf p0 r8 hr8) Try.call55 rfl rfl rfl rfl rfl ?_
  refine TL_pure rfl rfl rfl rfl (op_move rfl) ?_
  refine TL_pure rfl rfl rfl rfl (op_extract rfl rfl) ?_
  refine TL_pure rfl rfl rfl rfl (op_extract rfl rfl) ?_
  refine TL_pure rfl rfl rfl rfl (op_assign rfl) ?_
  refine TL_pure rfl rfl rfl rfl (op_assign rfl) ?_
  refine TL_nil ?_
  refine T_seq ?_
  refine T_seq ?_
  refine T_region ?_
  refine TL_pure rfl rfl rfl rfl (op_move rfl) ?_
  refine TL_pure rfl rfl rfl rfl (op_not rfl) ?_
  refine TL_nil ?_
  refine T_cond rfl (fun hq => ?_) (fun hq => ?_)
  · replace hm := condT hq hm
    refine T_seq ?_
    refine T_region ?_
    refine TL_pure rfl rfl rfl rfl (op_assign rfl) ?_
    refine TL_pure rfl rfl rfl rfl (op_assign rfl) ?_
    refine TL_nil ?_
    refine T_ownNil 2 11 ⟨false, true⟩ 77 rfl rfl (sz := 8) rfl rfl rfl ?_
    refine T_keepH [2, 3] [11] rfl rfl rfl rfl (by rw [hF]; rfl) ?_
    refine T_ren [(11, 1000)] rfl rfl rfl (by rw [hF]; rfl) ?_
    refine T_ret ?_
    obtain rfl := someI hm
    refine ⟨[_, _], [1000], ⟨rfl, rfl, trivial⟩, ?_, rfl, rfl, rfl, rfl⟩
    rfl
  · replace hm := condF hq hm
    refine T_skip ?_
    refine T_seq ?_
    refine T_region ?_
    refine TL_pure rfl rfl rfl rfl (op_move rfl) ?_
    obtain ⟨r14, hr14, hm⟩ := bindS hm
    refine TL_callT (c_impl_tree_normal 1000 r8.1 r14 hr14) Try.call56 rfl rfl rfl rfl rfl ?_
    obtain ⟨r15, hr15, hm⟩ := bindS hm
    refine TL_callO [(1000, 12)] (c_impl_tree_body 1000 r14 r15 hr15) Try.call57 rfl rfl rfl rfl rfl rfl rfl rfl rfl rfl rfl rfl rfl ?_
    refine TL_pure rfl rfl rfl rfl (op_assign rfl) ?_
    refine TL_pure rfl rfl rfl rfl (op_assign rfl) ?_
    refine TL_nil ?_
    refine T_keepH [2, 3] [12] rfl rfl rfl rfl (by rw [hF]; rfl) ?_
    refine T_ren [(12, 1000)] rfl rfl rfl (by rw [hF]; rfl) ?_
    refine T_ret ?_
    obtain rfl := someI hm
    refine ⟨[_, _], [1000], ⟨rfl, rfl, trivial⟩, ?_, rfl, rfl, rfl, rfl⟩
    rfl
theorem c_laws_eqInt64S (p0 : List Int) (p1 : List Int) (out : Bool) (hm : m_laws_eqInt64S p0 p1 = some out) : ACall Try.prog 77 [.sl 1 (List.map a_i64 p0), .sl 1 (List.map a_i64 p1)] [] (.bool out) [] := by
  refine ACall.intro Try.func77 rfl Try.ntmps77 rfl (fun F hF => ?_)
  unfold m_laws_eqInt64S at hm
  refine T_seq ?_
  refine T_region ?_
  refine TL_pure rfl rfl rfl rfl (op_assign rfl) ?_
  refine TL_nil ?_
  refine T_seq ?_
  refine T_seq ?_
  refine T_region ?_
  refine TL_pure rfl rfl rfl rfl (op_move rfl) ?_
  refine TL_pure rfl rfl rfl rfl (op_lenT Try.underlying29 rfl (List.length_map _)) ?_
  refine TL_fact (fun _ _ _ hr => RelP.slLen (i := 6) rfl hr) (fun hlen7 => ?_)
  rw [List.length_map] at hlen7
  refine TL_pure rfl rfl rfl rfl (op_move rfl) ?_
  refine TL_pure rfl rfl rfl rfl (op_lenT Try.underlying29 rfl (List.length_map _)) ?_
  refine TL_fact (fun _ _ _ hr => RelP.slLen (i := 8) rfl hr) (fun hlen9 => ?_)
  rw [List.length_map] at hlen9
  refine TL_pure rfl rfl rfl rfl (op_neq rfl rfl) ?_
  refine TL_nil ?_
  refine T_cond rfl (fun hq => ?_) (fun hq => ?_)
  · replace hm := condT hq hm
    refine T_seq ?_
    refine T_region ?_
    refine TL_pure rfl rfl rfl rfl (op_assign rfl) ?_
    refine TL_nil ?_
    refine T_keepH [4] [] rfl rfl rfl rfl (by rw [hF]; rfl) ?_
    refine T_ret ?_
    obtain rfl := someI hm
    refine ⟨[_], [], ⟨rfl, trivial⟩, ?_, rfl, rfl, rfl, rfl⟩
    rfl
  · replace hm := condF hq hm
    refine T_skip ?_
    refine T_seq ?_
    refine T_seq ?_
    refine T_region ?_
    refine TL_pure rfl rfl rfl rfl (op_assign rfl) ?_
    refine TL_nil ?_
    refine T_block ?_
    refine T_keepH [0, 1, 5] [] rfl rfl rfl rfl (by rw [hF]; rfl) ?_
    refine T_loop ?_
    obtain ⟨u0, hl0, hm⟩ := bindS hm
    refine TR_iter2 (m_laws_eqInt64S_L0 p0 p1) (fun (s0 : Int) => ⟨[(0, .sl 1 (List.map a_i64 p0)), (1, .sl 1 (List.map a_i64 p1)), (5, .int .i64 s0)], []⟩) (fun u0 => match u0 with | .inl u0 => .exit 0 | .inr u0 => .ret) (fun u0 => match u0 with | .inl u0 => ⟨[], []⟩ | .inr u0 => ⟨[(4, .bool u0)], []⟩) (fun u0 => m_laws_eqInt64S_A0 u0 = some out) hl0 hm (fun u0 hm => ?_) (fun hx0 s0 c0 hm hc0 => ?_)
    · rcases u0 with u0 | u0
      · unfold m_laws_eqInt64S_A0 at hm
        refine T_seq ?_
        refine T_region ?_
        refine TL_pure rfl rfl rfl rfl (op_assign rfl) ?_
        refine TL_nil ?_
        refine T_keepH [4] [] rfl rfl rfl rfl (by rw [hF]; rfl) ?_
        refine T_ret ?_
        obtain rfl := someI hm
        refine ⟨[_], [], ⟨rfl, trivial⟩, ?_, rfl, rfl, rfl, rfl⟩
        rfl
      · unfold m_laws_eqInt64S_A0 at hm
        obtain rfl := someI hm
        refine ⟨[_], [], ⟨rfl, trivial⟩, ?_, rfl, rfl, rfl, rfl⟩
        rfl
    · unfold m_laws_eqInt64S_L0 at hm
      refine T_seq ?_
      refine T_seq ?_
      refine T_region ?_
      refine TL_pure rfl rfl rfl rfl (op_move rfl) ?_
      refine TL_pure rfl rfl rfl rfl (op_move rfl) ?_
      refine TL_pure rfl rfl rfl rfl (op_lenT Try.underlying29 rfl (List.length_map _)) ?_
      refine TL_pure rfl rfl rfl rfl (op_lss rfl rfl) ?_
      refine TL_nil ?_
      refine T_cond rfl (fun hq => ?_) (fun hq => ?_)
      · replace hm := condT hq hm
        refine T_skip ?_
        refine T_seq ?_
        refine T_block ?_
        refine T_seq ?_
        refine T_drawZ [] mix (by kernel_rfl) rfl ?_
        obtain ⟨x19, hx19, hm⟩ := bindS hm
        obtain ⟨x23, hx23, hm⟩ := bindS hm
        refine TZ_pure 0 (by kernel_rfl) rfl rfl rfl rfl rfl (op_move rfl) ?_
        refine TZ_pure 1 (by kernel_rfl) rfl rfl rfl rfl rfl (op_move rfl) ?_
        refine TZ_pure 2 (by kernel_rfl) rfl rfl rfl rfl rfl (op_indexT el29 rfl rfl hx19 rfl) ?_
        refine TZ_pure 3 (by kernel_rfl) rfl rfl rfl rfl rfl (op_load_one ag2 rfl rfl) ?_
        refine TZ_pure 4 (by kernel_rfl) rfl rfl rfl rfl rfl (op_move rfl) ?_
        refine TZ_pure 5 (by kernel_rfl) rfl rfl rfl rfl rfl (op_move rfl) ?_
        refine TZ_pure 6 (by kernel_rfl) rfl rfl rfl rfl rfl (op_indexT el29 rfl rfl hx23 rfl) ?_
        refine TZ_pure 7 (by kernel_rfl) rfl rfl rfl rfl rfl (op_load_one ag2 rfl rfl) ?_
        refine TZ_pure 8 (by kernel_rfl) rfl rfl rfl rfl rfl (op_neq rfl rfl) ?_
        refine TZ_done (by kernel_rfl) ?_
        refine T_cond rfl (fun hq => ?_) (fun hq => ?_)
        · replace hm := condT hq hm
          refine T_seq ?_
          refine T_region ?_
          refine TL_pure rfl rfl rfl rfl (op_assign rfl) ?_
          refine TL_nil ?_
          refine T_keepH [4] [] rfl rfl rfl rfl (by rw [hF]; rfl) ?_
          refine T_ret ?_
          obtain rfl := someI hm
          have hn := CtlOK_out hc0
          exact hx0 (.inr false) hn
        · replace hm := condF hq hm
          refine T_skip ?_
          refine T_region ?_
          refine TL_pure rfl rfl rfl rfl (op_move rfl) ?_
          refine TL_pure rfl rfl rfl rfl (op_addW rfl rfl) ?_
          refine TL_pure rfl rfl rfl rfl (op_assign rfl) ?_
          refine TL_nil ?_
          refine TR_keepH [0, 1, 5] [] rfl rfl rfl rfl (by rw [hF]; rfl) ?_
          obtain rfl := someI hm
          have hn := CtlOK_next hc0
          exact hn _ rfl
      · replace hm := condF hq hm
        refine T_keepH [] [] rfl rfl rfl rfl (by rw [hF]; rfl) ?_
        refine T_exit ?_
        obtain rfl := someI hm
        have hn := CtlOK_out hc0
        exact hx0 (.inl ()) hn
theorem c_laws_eqTerm (p0 : Term) (p1 : Term) (out : Bool) (hm : m_laws_eqTerm p0 p1 = some out) : ACall Try.prog 101 [.agg [.int .i64 p0.Const, .sl 1 (List.map a_i64 p0.Coeffs)], .agg [.int .i64 p1.Const, .sl 1 (List.map a_i64 p1.Coeffs)]] [] (.bool out) [] := by
  refine ACall.intro Try.func101 rfl Try.ntmps101 rfl (fun F hF => ?_)
  unfold m_laws_eqTerm at hm
  refine T_seq ?_
  refine T_region ?_
  refine TL_box 11 rfl rfl rfl rfl rfl rfl rfl ?_
  refine TL_box 12 rfl rfl rfl rfl rfl rfl rfl ?_
  refine TL_pure rfl rfl rfl rfl (op_assign rfl) ?_
  refine TL_nil ?_
  refine T_seq ?_
  refine T_seq ?_
  refine T_region ?_
  refine TL_pure rfl rfl rfl rfl (op_fieldAddr fa75_0 rfl rfl) ?_
  refine TL_pure rfl rfl rfl rfl (op_load_one ag2 rfl rfl) ?_
  refine TL_pure rfl rfl rfl rfl (op_fieldAddr fa75_0 rfl rfl) ?_
  refine TL_pure rfl rfl rfl rfl (op_load_one ag2 rfl rfl) ?_
  refine TL_pure rfl rfl rfl rfl (op_neq rfl rfl) ?_
  refine TL_nil ?_
  refine T_cond rfl (fun hq => ?_) (fun hq => ?_)
  · replace hm := condT hq hm
    refine T_seq ?_
    refine T_region ?_
    refine TL_pure rfl rfl rfl rfl (op_assign rfl) ?_
    refine TL_nil ?_
    refine T_keepH [4] [] rfl rfl rfl rfl (by rw [hF]; rfl) ?_
    refine T_ret ?_
    obtain rfl := someI hm
    refine ⟨[_], [], ⟨rfl, trivial⟩, ?_, rfl, rfl, rfl, rfl⟩
    rfl
  · replace hm := condF hq hm
    refine T_skip ?_
    refine T_seq ?_
    refine T_seq ?_
    refine T_region ?_
    refine TL_pure rfl rfl rfl rfl (op_fieldAddr fa75_1 rfl rfl) ?_
    refine TL_pure rfl rfl rfl rfl (op_load_one ag29 rfl rfl) ?_
    refine TL_pure rfl rfl rfl rfl (op_fieldAddr fa75_1 rfl rfl) ?_
    refine TL_pure rfl rfl rfl rfl (op_load_one ag29 rfl rfl) ?_
    obtain ⟨r14, hr14, hm⟩ := bindS hm
    refine TL_callF (c_laws_eqInt64S p0.Coeffs p1.Coeffs r14 hr14) Try.call77 rfl rfl rfl rfl rfl ?_
    refine TL_pure rfl rfl rfl rfl (op_not rfl) ?_
    refine TL_nil ?_
    refine T_cond rfl (fun hq => ?_) (fun hq => ?_)
    · replace hm := condT hq hm
      refine T_seq ?_
      refine T_region ?_
      refine TL_pure rfl rfl rfl rfl (op_assign rfl) ?_
      refine TL_nil ?_
      refine T_keepH [4] [] rfl rfl rfl rfl (by rw [hF]; rfl) ?_
      refine T_ret ?_
      obtain rfl := someI hm
      refine ⟨[_], [], ⟨rfl, trivial⟩, ?_, rfl, rfl, rfl, rfl⟩
      rfl
    · replace hm := condF hq hm
      refine T_skip ?_
      refine T_seq ?_
      refine T_region ?_
      refine TL_pure rfl rfl rfl rfl (op_assign rfl) ?_
      refine TL_nil ?_
      refine T_keepH [4] [] rfl rfl rfl rfl (by rw [hF]; rfl) ?_
      refine T_ret ?_
      obtain rfl := someI hm
      refine ⟨[_], [], ⟨rfl, trivial⟩, ?_, rfl, rfl, rfl, rfl⟩
      rfl
theorem c_laws_eqTermS (p0 : List Term) (p1 : List Term) (out : Bool) (hm : m_laws_eqTermS p0 p1 = some out) : ACall Try.prog 68 [.sl 2 (List.map a_Term p0), .sl 2 (List.map a_Term p1)] [] (.bool out) [] := by
  refine ACall.intro Try.func68 rfl Try.ntmps68 rfl (fun F hF => ?_)
  unfold m_laws_eqTermS at hm
  refine T_seq ?_
  refine T_region ?_
  refine TL_pure rfl rfl rfl rfl (op_assign rfl) ?_
  refine TL_nil ?_
  refine T_seq ?_
  refine T_seq ?_
  refine T_region ?_
  refine TL_pure rfl rfl rfl rfl (op_move rfl) ?_
  refine TL_pure rfl rfl rfl rfl (op_lenT Try.underlying24 rfl (List.length_map _)) ?_
  refine TL_fact (fun _ _ _ hr => RelP.slLen (i := 6) rfl hr) (fun hlen7 => ?_)
  rw [List.length_map] at hlen7
  refine TL_pure rfl rfl rfl rfl (op_move rfl) ?_
  refine TL_pure rfl rfl rfl rfl (op_lenT Try.underlying24 rfl (List.length_map _)) ?_
  refine TL_fact (fun _ _ _ hr => RelP.slLen (i := 8) rfl hr) (fun hlen9 => ?_)
  rw [List.length_map] at hlen9
  refine TL_pure rfl rfl rfl rfl (op_neq rfl rfl) ?_
  refine TL_nil ?_
  refine T_cond rfl (fun hq => ?_) (fun hq => ?_)
  · replace hm := condT hq hm
    refine T_seq ?_
    refine T_region ?_
    refine TL_pure rfl rfl rfl rfl (op_assign rfl) ?_
    refine TL_nil ?_
    refine T_keepH [4] [] rfl rfl rfl rfl (by rw [hF]; rfl) ?_
    refine T_ret ?_
    obtain rfl := someI hm
    refine ⟨[_], [], ⟨rfl, trivial⟩, ?_, rfl, rfl, rfl, rfl⟩
    rfl
  · replace hm := condF hq hm
    refine T_skip ?_
    refine T_seq ?_
    refine T_seq ?_
    refine T_region ?_
    refine TL_pure rfl rfl rfl rfl (op_assign rfl) ?_
    refine TL_nil ?_
    refine T_block ?_
    refine T_keepH [0, 1, 5] [] rfl rfl rfl rfl (by rw [hF]; rfl) ?_
    refine T_loop ?_
    obtain ⟨u0, hl0, hm⟩ := bindS hm
    refine TR_iter2 (m_laws_eqTermS_L0 p0 p1) (fun (s0 : Int) => ⟨[(0, .sl 2 (List.map a_Term p0)), (1, .sl 2 (List.map a_Term p1)), (5, .int .i64 s0)], []⟩) (fun u0 => match u0 with | .inl u0 => .exit 0 | .inr u0 => .ret) (fun u0 => match u0 with | .inl u0 => ⟨[], []⟩ | .inr u0 => ⟨[(4, .bool u0)], []⟩) (fun u0 => m_laws_eqTermS_A0 u0 = some out) hl0 hm (fun u0 hm => ?_) (fun hx0 s0 c0 hm hc0 => ?_)
    · rcases u0 with u0 | u0
      · unfold m_laws_eqTermS_A0 at hm
        refine T_seq ?_
        refine T_region ?_
        refine TL_pure rfl rfl rfl rfl (op_assign rfl) ?_
        refine TL_nil ?_
        refine T_keepH [4] [] rfl rfl rfl rfl (by rw [hF]; rfl) ?_
        refine T_ret ?_
        obtain rfl := someI hm
        refine ⟨[_], [], ⟨rfl, trivial⟩, ?_, rfl, rfl, rfl, rfl⟩
        rfl
      · unfold m_laws_eqTermS_A0 at hm
        obtain rfl := someI hm
        refine ⟨[_], [], ⟨rfl, trivial⟩, ?_, rfl, rfl, rfl, rfl⟩
        rfl
    · unfold m_laws_eqTermS_L0 at hm
      refine T_seq ?_
      refine T_seq ?_
      refine T_region ?_
      refine TL_pure rfl rfl rfl rfl (op_move rfl) ?_
      refine TL_pure rfl rfl rfl rfl (op_move rfl) ?_
      refine TL_pure rfl rfl rfl rfl (op_lenT Try.underlying24 rfl (List.length_map _)) ?_
      refine TL_pure rfl rfl rfl rfl (op_lss rfl rfl) ?_
      refine TL_nil ?_
      refine T_cond rfl (fun hq => ?_) (fun hq => ?_)
      · replace hm := condT hq hm
        refine T_skip ?_
        refine T_seq ?_
        refine T_block ?_
        refine T_seq ?_
        refine T_drawZ [] mix (by kernel_rfl) rfl ?_
        obtain ⟨x19, hx19, hm⟩ := bindS hm
        obtain ⟨x23, hx23, hm⟩ := bindS hm
        obtain ⟨r25, hr25, hm⟩ := bindS hm
        refine TZ_pure 0 (by kernel_rfl) rfl rfl rfl rfl rfl (op_move rfl) ?_
        refine TZ_pure 1 (by kernel_rfl) rfl rfl rfl rfl rfl (op_move rfl) ?_
        refine TZ_pure 2 (by kernel_rfl) rfl rfl rfl rfl rfl (op_indexT el24 rfl rfl hx19 rfl) ?_
        refine TZ_pure 3 (by kernel_rfl) rfl rfl rfl rfl rfl (op_load_agg ag75 sz75 rfl rfl rfl) ?_
        refine TZ_pure 4 (by kernel_rfl) rfl rfl rfl rfl rfl (op_move rfl) ?_
        refine TZ_pure 5 (by kernel_rfl) rfl rfl rfl rfl rfl (op_move rfl) ?_
        refine TZ_pure 6 (by kernel_rfl) rfl rfl rfl rfl rfl (op_indexT el24 rfl rfl hx23 rfl) ?_
        refine TZ_pure 7 (by kernel_rfl) rfl rfl rfl rfl rfl (op_load_agg ag75 sz75 rfl rfl rfl) ?_
        refine TZ_one 8 (by kernel_rfl) rfl ?_
        refine TL_callF (c_laws_eqTerm x19 x23 r25 hr25) Try.call101 rfl rfl rfl rfl rfl ?_
        refine TL_nil ?_
        refine TZ_pure 9 (by kernel_rfl) rfl rfl rfl rfl rfl (op_not rfl) ?_
        refine TZ_done (by kernel_rfl) ?_
        refine T_cond rfl (fun hq => ?_) (fun hq => ?_)
        · replace hm := condT hq hm
          refine T_seq ?_
          refine T_region ?_
          refine TL_pure rfl rfl rfl rfl (op_assign rfl) ?_
          refine TL_nil ?_
          refine T_keepH [4] [] rfl rfl rfl rfl (by rw [hF]; rfl) ?_
          refine T_ret ?_
          obtain rfl := someI hm
          have hn := CtlOK_out hc0
          exact hx0 (.inr false) hn
        · replace hm := condF hq hm
          refine T_skip ?_
          refine T_region ?_
          refine TL_pure rfl rfl rfl rfl (op_move rfl) ?_
          refine TL_pure rfl rfl rfl rfl (op_addW rfl rfl) ?_
          refine TL_pure rfl rfl rfl rfl (op_assign rfl) ?_
          refine TL_nil ?_
          refine TR_keepH [0, 1, 5] [] rfl rfl rfl rfl (by rw [hF]; rfl) ?_
          obtain rfl := someI hm
          have hn := CtlOK_next hc0
          exact hn _ rfl
      · replace hm := condF hq hm
        refine T_keepH [] [] rfl rfl rfl rfl (by rw [hF]; rfl) ?_
        refine T_exit ?_
        obtain rfl := someI hm
        have hn := CtlOK_out hc0
        exact hx0 (.inl ()) hn
theorem c_laws_eqStmt (p0 : Stmt) (p1 : Stmt) (out : Bool) (hm : m_laws_eqStmt p0 p1 = some out) : ACall Try.prog 58 [.agg [.int .i64 p0.Kind, .int .i64 p0.Var, .int .i64 p0.Event, .int .i64 p0.Sum.Const, .sl 1 (List.map a_i64 p0.Sum.Coeffs), .int .i64 p0.Index.Const, .sl 1 (List.map a_i64 p0.Index.Coeffs), .sl 2 (List.map a_Term p0.Facts)], .agg [.int .i64 p1.Kind, .int .i64 p1.Var, .int .i64 p1.Event, .int .i64 p1.Sum.Const, .sl 1 (List.map a_i64 p1.Sum.Coeffs), .int .i64 p1.Index.Const, .sl 1 (List.map a_i64 p1.Index.Coeffs), .sl 2 (List.map a_Term p1.Facts)]] [] (.bool out) [] := by
  refine ACall.intro Try.func58 rfl Try.ntmps58 rfl (fun F hF => ?_)
  unfold m_laws_eqStmt at hm
  refine T_seq ?_
  refine T_region ?_
  refine TL_box 11 rfl rfl rfl rfl rfl rfl rfl ?_
  refine TL_box 12 rfl rfl rfl rfl rfl rfl rfl ?_
  refine TL_pure rfl rfl rfl rfl (op_assign rfl) ?_
  refine TL_nil ?_
  refine T_seq ?_
  refine T_seq ?_
  refine T_region ?_
  refine TL_pure rfl rfl rfl rfl (op_fieldAddr fa77_0 rfl rfl) ?_
  refine TL_pure rfl rfl rfl rfl (op_load_one ag2 rfl rfl) ?_
  refine TL_pure rfl rfl rfl rfl (op_fieldAddr fa77_0 rfl rfl) ?_
  refine TL_pure rfl rfl rfl rfl (op_load_one ag2 rfl rfl) ?_
  refine TL_pure rfl rfl rfl rfl (op_neq rfl rfl) ?_
  refine TL_nil ?_
  refine T_cond rfl (fun hq => ?_) (fun hq => ?_)
  · replace hm := condT hq hm
    refine T_seq ?_
    refine T_region ?_
    refine TL_pure rfl rfl rfl rfl (op_assign rfl) ?_
    refine TL_nil ?_
    refine T_keepH [4] [] rfl rfl rfl rfl (by rw [hF]; rfl) ?_
    refine T_ret ?_
    obtain rfl := someI hm
    refine ⟨[_], [], ⟨rfl, trivial⟩, ?_, rfl, rfl, rfl, rfl⟩
    rfl
  · replace hm := condF hq hm
    refine T_skip ?_
    refine T_seq ?_
    refine T_seq ?_
    refine T_region ?_
    refine TL_pure rfl rfl rfl rfl (op_fieldAddr fa77_1 rfl rfl) ?_
    refine TL_pure rfl rfl rfl rfl (op_load_one ag2 rfl rfl) ?_
    refine TL_pure rfl rfl rfl rfl (op_fieldAddr fa77_1 rfl rfl) ?_
    refine TL_pure rfl rfl rfl rfl (op_load_one ag2 rfl rfl) ?_
    refine TL_pure rfl rfl rfl rfl (op_neq rfl rfl) ?_
    refine TL_nil ?_
    refine T_cond rfl (fun hq => ?_) (fun hq => ?_)
    · replace hm := condT hq hm
      refine T_seq ?_
      refine T_region ?_
      refine TL_pure rfl rfl rfl rfl (op_assign rfl) ?_
      refine TL_nil ?_
      refine T_keepH [4] [] rfl rfl rfl rfl (by rw [hF]; rfl) ?_
      refine T_ret ?_
      obtain rfl := someI hm
      refine ⟨[_], [], ⟨rfl, trivial⟩, ?_, rfl, rfl, rfl, rfl⟩
      rfl
    · replace hm := condF hq hm
      refine T_skip ?_
      refine T_seq ?_
      refine T_seq ?_
      refine T_region ?_
      refine TL_pure rfl rfl rfl rfl (op_fieldAddr fa77_2 rfl rfl) ?_
      refine TL_pure rfl rfl rfl rfl (op_load_one ag2 rfl rfl) ?_
      refine TL_pure rfl rfl rfl rfl (op_fieldAddr fa77_2 rfl rfl) ?_
      refine TL_pure rfl rfl rfl rfl (op_load_one ag2 rfl rfl) ?_
      refine TL_pure rfl rfl rfl rfl (op_neq rfl rfl) ?_
      refine TL_nil ?_
      refine T_cond rfl (fun hq => ?_) (fun hq => ?_)
      · replace hm := condT hq hm
        refine T_seq ?_
        refine T_region ?_
        refine TL_pure rfl rfl rfl rfl (op_assign rfl) ?_
        refine TL_nil ?_
        refine T_keepH [4] [] rfl rfl rfl rfl (by rw [hF]; rfl) ?_
        refine T_ret ?_
        obtain rfl := someI hm
        refine ⟨[_], [], ⟨rfl, trivial⟩, ?_, rfl, rfl, rfl, rfl⟩
        rfl
      · replace hm := condF hq hm
        refine T_skip ?_
        refine T_seq ?_
        refine T_seq ?_
        refine T_region ?_
        refine TL_pure rfl rfl rfl rfl (op_fieldAddr fa77_3 rfl rfl) ?_
        refine TL_pure rfl rfl rfl rfl (op_load_agg ag75 sz75 rfl rfl rfl) ?_
        refine TL_pure rfl rfl rfl rfl (op_fieldAddr fa77_3 rfl rfl) ?_
        refine TL_pure rfl rfl rfl rfl (op_load_agg ag75 sz75 rfl rfl rfl) ?_
        obtain ⟨r24, hr24, hm⟩ := bindS hm
        refine TL_callF (c_laws_eqTerm p0.Sum p1.Sum r24 hr24) Try.call101 rfl rfl rfl rfl rfl ?_
        refine TL_pure rfl rfl rfl rfl (op_not rfl) ?_
        refine TL_nil ?_
        refine T_cond rfl (fun hq => ?_) (fun hq => ?_)
        · replace hm := condT hq hm
          refine T_seq ?_
          refine T_region ?_
          refine TL_pure rfl rfl rfl rfl (op_assign rfl) ?_
          refine TL_nil ?_
          refine T_keepH [4] [] rfl rfl rfl rfl (by rw [hF]; rfl) ?_
          refine T_ret ?_
          obtain rfl := someI hm
          refine ⟨[_], [], ⟨rfl, trivial⟩, ?_, rfl, rfl, rfl, rfl⟩
          rfl
        · replace hm := condF hq hm
          refine T_skip ?_
          refine T_seq ?_
          refine T_seq ?_
          refine T_region ?_
          refine TL_pure rfl rfl rfl rfl (op_fieldAddr fa77_4 rfl rfl) ?_
          refine TL_pure rfl rfl rfl rfl (op_load_agg ag75 sz75 rfl rfl rfl) ?_
          refine TL_pure rfl rfl rfl rfl (op_fieldAddr fa77_4 rfl rfl) ?_
          refine TL_pure rfl rfl rfl rfl (op_load_agg ag75 sz75 rfl rfl rfl) ?_
          obtain ⟨r30, hr30, hm⟩ := bindS hm
          refine TL_callF (c_laws_eqTerm p0.Index p1.Index r30 hr30) Try.call101 rfl rfl rfl rfl rfl ?_
          refine TL_pure rfl rfl rfl rfl (op_not rfl) ?_
          refine TL_nil ?_
          refine T_cond rfl (fun hq => ?_) (fun hq => ?_)
          · replace hm := condT hq hm
            refine T_seq ?_
            refine T_region ?_
            refine TL_pure rfl rfl rfl rfl (op_assign rfl) ?_
            refine TL_nil ?_
            refine T_keepH [4] [] rfl rfl rfl rfl (by rw [hF]; rfl) ?_
            refine T_ret ?_
            obtain rfl := someI hm
            refine ⟨[_], [], ⟨rfl, trivial⟩, ?_, rfl, rfl, rfl, rfl⟩
            rfl
          · replace hm := condF hq hm
            refine T_skip ?_
            refine T_seq ?_
            refine T_seq ?_
            refine T_region ?_
            refine TL_pure rfl rfl rfl rfl (op_fieldAddr fa77_5 rfl rfl) ?_
            refine TL_pure rfl rfl rfl rfl (op_load_one ag24 rfl rfl) ?_
            refine TL_pure rfl rfl rfl rfl (op_fieldAddr fa77_5 rfl rfl) ?_
            refine TL_pure rfl rfl rfl rfl (op_load_one ag24 rfl rfl) ?_
            obtain ⟨r36, hr36, hm⟩ := bindS hm
            refine TL_callF (c_laws_eqTermS p0.Facts p1.Facts r36 hr36) Try.call68 rfl rfl rfl rfl rfl ?_
            refine TL_pure rfl rfl rfl rfl (op_not rfl) ?_
            refine TL_nil ?_
            refine T_cond rfl (fun hq => ?_) (fun hq => ?_)
            · replace hm := condT hq hm
              refine T_seq ?_
              refine T_region ?_
              refine TL_pure rfl rfl rfl rfl (op_assign rfl) ?_
              refine TL_nil ?_
              refine T_keepH [4] [] rfl rfl rfl rfl (by rw [hF]; rfl) ?_
              refine T_ret ?_
              obtain rfl := someI hm
              refine ⟨[_], [], ⟨rfl, trivial⟩, ?_, rfl, rfl, rfl, rfl⟩
              rfl
            · replace hm := condF hq hm
              refine T_skip ?_
              refine T_seq ?_
              refine T_region ?_
              refine TL_pure rfl rfl rfl rfl (op_assign rfl) ?_
              refine TL_nil ?_
              refine T_keepH [4] [] rfl rfl rfl rfl (by rw [hF]; rfl) ?_
              refine T_ret ?_
              obtain rfl := someI hm
              refine ⟨[_], [], ⟨rfl, trivial⟩, ?_, rfl, rfl, rfl, rfl⟩
              rfl
theorem c_laws_eqStmtS (p0 : List Stmt) (p1 : List Stmt) (out : Bool) (hm : m_laws_eqStmtS p0 p1 = some out) : ACall Try.prog 25 [.sl 8 (List.map a_Stmt p0), .sl 8 (List.map a_Stmt p1)] [] (.bool out) [] := by
  refine ACall.intro Try.func25 rfl Try.ntmps25 rfl (fun F hF => ?_)
  unfold m_laws_eqStmtS at hm
  refine T_seq ?_
  refine T_region ?_
  refine TL_pure rfl rfl rfl rfl (op_assign rfl) ?_
  refine TL_nil ?_
  refine T_seq ?_
  refine T_seq ?_
  refine T_region ?_
  refine TL_pure rfl rfl rfl rfl (op_move rfl) ?_
  refine TL_pure rfl rfl rfl rfl (op_lenT Try.underlying25 rfl (List.length_map _)) ?_
  refine TL_fact (fun _ _ _ hr => RelP.slLen (i := 6) rfl hr) (fun hlen7 => ?_)
  rw [List.length_map] at hlen7
  refine TL_pure rfl rfl rfl rfl (op_move rfl) ?_
  refine TL_pure rfl rfl rfl rfl (op_lenT Try.underlying25 rfl (List.length_map _)) ?_
  refine TL_fact (fun _ _ _ hr => RelP.slLen (i := 8) rfl hr) (fun hlen9 => ?_)
  rw [List.length_map] at hlen9
  refine TL_pure rfl rfl rfl rfl (op_neq rfl rfl) ?_
  refine TL_nil ?_
  refine T_cond rfl (fun hq => ?_) (fun hq => ?_)
  · replace hm := condT hq hm
    refine T_seq ?_
    refine T_region ?_
    refine TL_pure rfl rfl rfl rfl (op_assign rfl) ?_
    refine TL_nil ?_
    refine T_keepH [4] [] rfl rfl rfl rfl (by rw [hF]; rfl) ?_
    refine T_ret ?_
    obtain rfl := someI hm
    refine ⟨[_], [], ⟨rfl, trivial⟩, ?_, rfl, rfl, rfl, rfl⟩
    rfl
  · replace hm := condF hq hm
    refine T_skip ?_
    refine T_seq ?_
    refine T_seq ?_
    refine T_region ?_
    refine TL_pure rfl rfl rfl rfl (op_assign rfl) ?_
    refine TL_nil ?_
    refine T_block ?_
    refine T_keepH [0, 1, 5] [] rfl rfl rfl rfl (by rw [hF]; rfl) ?_
    refine T_loop ?_
    obtain ⟨u0, hl0, hm⟩ := bindS hm
    refine TR_iter2 (m_laws_eqStmtS_L0 p0 p1) (fun (s0 : Int) => ⟨[(0, .sl 8 (List.map a_Stmt p0)), (1, .sl 8 (List.map a_Stmt p1)), (5, .int .i64 s0)], []⟩) (fun u0 => match u0 with | .inl u0 => .exit 0 | .inr u0 => .ret) (fun u0 => match u0 with | .inl u0 => ⟨[], []⟩ | .inr u0 => ⟨[(4, .bool u0)], []⟩) (fun u0 => m_laws_eqStmtS_A0 u0 = some out) hl0 hm (fun u0 hm => ?_) (fun hx0 s0 c0 hm hc0 => ?_)
    · rcases u0 with u0 | u0
      · unfold m_laws_eqStmtS_A0 at hm
        refine T_seq ?_
        refine T_region ?_
        refine TL_pure rfl rfl rfl rfl (op_assign rfl) ?_
        refine TL_nil ?_
        refine T_keepH [4] [] rfl rfl rfl rfl (by rw [hF]; rfl) ?_
        refine T_ret ?_
        obtain rfl := someI hm
        refine ⟨[_], [], ⟨rfl, trivial⟩, ?_, rfl, rfl, rfl, rfl⟩
        rfl
      · unfold m_laws_eqStmtS_A0 at hm
        obtain rfl := someI hm
        refine ⟨[_], [], ⟨rfl, trivial⟩, ?_, rfl, rfl, rfl, rfl⟩
        rfl
    · unfold m_laws_eqStmtS_L0 at hm
      refine T_seq ?_
      refine T_seq ?_
      refine T_region ?_
      refine TL_pure rfl rfl rfl rfl (op_move rfl) ?_
      refine TL_pure rfl rfl rfl rfl (op_move rfl) ?_
      refine TL_pure rfl rfl rfl rfl (op_lenT Try.underlying25 rfl (List.length_map _)) ?_
      refine TL_pure rfl rfl rfl rfl (op_lss rfl rfl) ?_
      refine TL_nil ?_
      refine T_cond rfl (fun hq => ?_) (fun hq => ?_)
      · replace hm := condT hq hm
        refine T_skip ?_
        refine T_seq ?_
        refine T_block ?_
        refine T_seq ?_
        refine T_drawZ [] mix (by kernel_rfl) rfl ?_
        obtain ⟨x19, hx19, hm⟩ := bindS hm
        obtain ⟨x23, hx23, hm⟩ := bindS hm
        obtain ⟨r25, hr25, hm⟩ := bindS hm
        refine TZ_pure 0 (by kernel_rfl) rfl rfl rfl rfl rfl (op_move rfl) ?_
        refine TZ_pure 1 (by kernel_rfl) rfl rfl rfl rfl rfl (op_move rfl) ?_
        refine TZ_pure 2 (by kernel_rfl) rfl rfl rfl rfl rfl (op_indexT el25 rfl rfl hx19 rfl) ?_
        refine TZ_pure 3 (by kernel_rfl) rfl rfl rfl rfl rfl (op_load_agg ag77 sz77 rfl rfl rfl) ?_
        refine TZ_pure 4 (by kernel_rfl) rfl rfl rfl rfl rfl (op_move rfl) ?_
        refine TZ_pure 5 (by kernel_rfl) rfl rfl rfl rfl rfl (op_move rfl) ?_
        refine TZ_pure 6 (by kernel_rfl) rfl rfl rfl rfl rfl (op_indexT el25 rfl rfl hx23 rfl) ?_
        refine TZ_pure 7 (by kernel_rfl) rfl rfl rfl rfl rfl (op_load_agg ag77 sz77 rfl rfl rfl) ?_
        refine TZ_one 8 (by kernel_rfl) rfl ?_
        refine TL_callF (c_laws_eqStmt x19 x23 r25 hr25) Try.call58 rfl rfl rfl rfl rfl ?_
        refine TL_nil ?_
        refine TZ_pure 9 (by kernel_rfl) rfl rfl rfl rfl rfl (op_not rfl) ?_
        refine TZ_done (by kernel_rfl) ?_
        refine T_cond rfl (fun hq => ?_) (fun hq => ?_)
        · replace hm := condT hq hm
          refine T_seq ?_
          refine T_region ?_
          refine TL_pure rfl rfl rfl rfl (op_assign rfl) ?_
          refine TL_nil ?_
          refine T_keepH [4] [] rfl rfl rfl rfl (by rw [hF]; rfl) ?_
          refine T_ret ?_
          obtain rfl := someI hm
          have hn := CtlOK_out hc0
          exact hx0 (.inr false) hn
        · replace hm := condF hq hm
          refine T_skip ?_
          refine T_region ?_
          refine TL_pure rfl rfl rfl rfl (op_move rfl) ?_
          refine TL_pure rfl rfl rfl rfl (op_addW rfl rfl) ?_
          refine TL_pure rfl rfl rfl rfl (op_assign rfl) ?_
          refine TL_nil ?_
          refine TR_keepH [0, 1, 5] [] rfl rfl rfl rfl (by rw [hF]; rfl) ?_
          obtain rfl := someI hm
          have hn := CtlOK_next hc0
          exact hn _ rfl
      · replace hm := condF hq hm
        refine T_keepH [] [] rfl rfl rfl rfl (by rw [hF]; rfl) ?_
        refine T_exit ?_
        obtain rfl := someI hm
        have hn := CtlOK_out hc0
        exact hx0 (.inl ()) hn
theorem c_laws_markInt64S (p0 : List Int) (p1 : Int) (out : Int × (List Int)) (hm : m_laws_markInt64S p0 p1 = some out) (E0 : TypeId) : ACall Try.prog 59 [.ow 0, .int .i64 p1] [(0, .arr ⟨true, true⟩ 1 E0 (List.map a_i64 p0))] (.int .i64 out.1) [(0, .arr ⟨true, true⟩ 1 E0 (List.map a_i64 out.2))] := by
  refine ACall.intro Try.func59 rfl Try.ntmps59 rfl (fun F hF => ?_)
  unfold m_laws_markInt64S at hm
  refine T_seq ?_
  refine T_region ?_
  refine TL_pure rfl rfl rfl rfl (op_assign rfl) ?_
  refine TL_nil ?_
  refine T_seq ?_
  refine T_seq ?_
  refine T_region ?_
  refine TL_pure rfl rfl rfl rfl (op_assign rfl) ?_
  refine TL_nil ?_
  refine T_block ?_
  refine T_keepH [0, 1, 5] [0] rfl rfl rfl rfl (by rw [hF]; rfl) ?_
  refine T_loop ?_
  obtain ⟨u0, hl0, hm⟩ := bindS hm
  refine TR_iter2 (m_laws_markInt64S_L0) (fun (s0 : (List Int) × Int × Int) => ⟨[(0, .ow 0), (1, .int .i64 s0.2.1), (5, .int .i64 s0.2.2)], [(0, .arr ⟨true, true⟩ 1 E0 (List.map a_i64 s0.1))]⟩) (fun u0 => .exit 0) (fun u0 => ⟨[(1, .int .i64 u0.1)], [(0, .arr ⟨true, true⟩ 1 E0 (List.map a_i64 u0.2))]⟩) (fun u0 => m_laws_markInt64S_A0 u0 = some out) hl0 hm (fun u0 hm => ?_) (fun hx0 s0 c0 hm hc0 => ?_)
  · unfold m_laws_markInt64S_A0 at hm
    refine T_seq ?_
    refine T_region ?_
    refine TL_pure rfl rfl rfl rfl (op_move rfl) ?_
    refine TL_pure rfl rfl rfl rfl (op_assign rfl) ?_
    refine TL_nil ?_
    refine T_keepH [4] [0] rfl rfl rfl rfl (by rw [hF]; rfl) ?_
    refine T_ret ?_
    obtain rfl := someI hm
    refine ⟨[_], [0], ⟨rfl, trivial⟩, ?_, rfl, rfl, rfl, rfl⟩
    rfl
  · unfold m_laws_markInt64S_L0 at hm
    refine T_seq ?_
    refine T_seq ?_
    refine T_region ?_
    refine TL_pure rfl rfl rfl rfl (op_move rfl) ?_
    refine TL_pure rfl rfl rfl rfl (op_move rfl) ?_
    refine TL_pure rfl rfl rfl rfl (op_lenO Try.underlying29 rfl rfl (List.length_map _)) ?_
    refine TL_fact (fun _ _ _ hr => RelP.owLen (id := 0) rfl hr) (fun hlen8 => ?_)
    rw [List.length_map] at hlen8
    refine TL_pure rfl rfl rfl rfl (op_lss rfl rfl) ?_
    refine TL_nil ?_
    refine T_cond rfl (fun hq => ?_) (fun hq => ?_)
    · replace hm := condT hq hm
      refine T_skip ?_
      refine T_seq ?_
      refine T_block ?_
      refine T_seq ?_
      refine T_region ?_
      refine TL_pure rfl rfl rfl rfl (op_move rfl) ?_
      refine TL_pure rfl rfl rfl rfl (op_move rfl) ?_
      refine TL_pure rfl rfl rfl rfl (op_move rfl) ?_
      obtain ⟨x15, hx15, hm⟩ := bindS hm
      refine TL_pure rfl rfl rfl rfl (op_indexO el29 rfl rfl rfl hx15) ?_
      refine TL_storeFT sz2 rfl rfl ((getI_spec hx15).2) (v' := s0.2.1) rfl rfl rfl rfl rfl rfl rfl rfl rfl ?_
      refine TL_nil ?_
      refine T_region ?_
      refine TL_pure rfl rfl rfl rfl (op_move rfl) ?_
      refine TL_pure rfl rfl rfl rfl (op_addW rfl rfl) ?_
      refine TL_pure rfl rfl rfl rfl (op_assign rfl) ?_
      refine TL_nil ?_
      refine T_region ?_
      refine TL_pure rfl rfl rfl rfl (op_move rfl) ?_
      refine TL_pure rfl rfl rfl rfl (op_addW rfl rfl) ?_
      refine TL_pure rfl rfl rfl rfl (op_assign rfl) ?_
      refine TL_nil ?_
      refine TR_keepH [0, 1, 5] [0] rfl rfl rfl rfl (by rw [hF]; rfl) ?_
      obtain rfl := someI hm
      have hn := CtlOK_next hc0
      exact hn _ rfl
    · replace hm := condF hq hm
      refine T_keepH [1] [0] rfl rfl rfl rfl (by rw [hF]; rfl) ?_
      refine T_exit ?_
      obtain rfl := someI hm
      have hn := CtlOK_out hc0
      exact hx0 (s0.2.1, s0.1) hn
theorem c_laws_markTermS (p0 : List Term) (p1 : Int) (out : Int × (List Term)) (hm : m_laws_markTermS p0 p1 = some out) (E0 : TypeId) : ACall Try.prog 60 [.ow 0, .int .i64 p1] [(0, .arr ⟨true, true⟩ 2 E0 (List.map a_Term p0))] (.int .i64 out.1) [(0, .arr ⟨true, true⟩ 2 E0 (List.map a_Term out.2))] := by
  refine ACall.intro Try.func60 rfl Try.ntmps60 rfl (fun F hF => ?_)
  unfold m_laws_markTermS at hm
  refine T_seq ?_
  refine T_region ?_
  refine TL_pure rfl rfl rfl rfl (op_assign rfl) ?_
  refine TL_nil ?_
  refine T_seq ?_
  refine T_seq ?_
  refine T_region ?_
  refine TL_pure rfl rfl rfl rfl (op_assign rfl) ?_
  refine TL_nil ?_
  refine T_block ?_
  refine T_keepH [0, 1, 5] [0] rfl rfl rfl rfl (by rw [hF]; rfl) ?_
  refine T_loop ?_
  obtain ⟨u0, hl0, hm⟩ := bindS hm
  refine TR_iter2 (m_laws_markTermS_L0) (fun (s0 : (List Term) × Int × Int) => ⟨[(0, .ow 0), (1, .int .i64 s0.2.1), (5, .int .i64 s0.2.2)], [(0, .arr ⟨true, true⟩ 2 E0 (List.map a_Term s0.1))]⟩) (fun u0 => .exit 0) (fun u0 => ⟨[(1, .int .i64 u0.1)], [(0, .arr ⟨true, true⟩ 2 E0 (List.map a_Term u0.2))]⟩) (fun u0 => m_laws_markTermS_A0 u0 = some out) hl0 hm (fun u0 hm => ?_) (fun hx0 s0 c0 hm hc0 => ?_)
  · unfold m_laws_markTermS_A0 at hm
    refine T_seq ?_
    refine T_region ?_
    refine TL_pure rfl rfl rfl rfl (op_move rfl) ?_
    refine TL_pure rfl rfl rfl rfl (op_assign rfl) ?_
    refine TL_nil ?_
    refine T_keepH [4] [0] rfl rfl rfl rfl (by rw [hF]; rfl) ?_
    refine T_ret ?_
    obtain rfl := someI hm
    refine ⟨[_], [0], ⟨rfl, trivial⟩, ?_, rfl, rfl, rfl, rfl⟩
    rfl
  · unfold m_laws_markTermS_L0 at hm
    refine T_seq ?_
    refine T_seq ?_
    refine T_region ?_
    refine TL_pure rfl rfl rfl rfl (op_move rfl) ?_
    refine TL_pure rfl rfl rfl rfl (op_move rfl) ?_
    refine TL_pure rfl rfl rfl rfl (op_lenO Try.underlying24 rfl rfl (List.length_map _)) ?_
    refine TL_fact (fun _ _ _ hr => RelP.owLen (id := 0) rfl hr) (fun hlen8 => ?_)
    rw [List.length_map] at hlen8
    refine TL_pure rfl rfl rfl rfl (op_lss rfl rfl) ?_
    refine TL_nil ?_
    refine T_cond rfl (fun hq => ?_) (fun hq => ?_)
    · replace hm := condT hq hm
      refine T_skip ?_
      refine T_seq ?_
      refine T_block ?_
      refine T_seq ?_
      refine T_region ?_
      refine TL_pure rfl rfl rfl rfl (op_move rfl) ?_
      refine TL_pure rfl rfl rfl rfl (op_move rfl) ?_
      refine TL_pure rfl rfl rfl rfl (op_move rfl) ?_
      obtain ⟨x15, hx15, hm⟩ := bindS hm
      refine TL_pure rfl rfl rfl rfl (op_indexO el24 rfl rfl rfl hx15) ?_
      refine TL_pure rfl rfl rfl rfl (op_fieldAddr fa75_0 rfl rfl) ?_
      refine TL_storeFT sz2 rfl rfl ((getI_spec hx15).2) (v' := (Term.mk s0.2.1 x15.Coeffs)) rfl rfl rfl rfl rfl rfl rfl rfl rfl ?_
      refine TL_nil ?_
      refine T_seq ?_
      refine T_region ?_
      refine TL_pure rfl rfl rfl rfl (op_move rfl) ?_
      refine TL_pure rfl rfl rfl rfl (op_addW rfl rfl) ?_
      refine TL_pure rfl rfl rfl rfl (op_assign rfl) ?_
      refine TL_nil ?_
      refine T_region ?_
      refine TL_pure rfl rfl rfl rfl (op_move rfl) ?_
      refine TL_pure rfl rfl rfl rfl (op_move rfl) ?_
      obtain ⟨x21, hx21, hm⟩ := bindS hm
      refine TL_pure rfl rfl rfl rfl (op_indexO el24 rfl rfl rfl hx21) ?_
      refine TL_pure rfl rfl rfl rfl (op_fieldAddr fa75_1 rfl rfl) ?_
      refine TL_pure rfl rfl rfl rfl (op_loadD1 ag29 rfl rfl ((getI_spec hx21).2) rfl rfl rfl rfl) ?_
      refine TL_pure rfl rfl rfl rfl (op_move rfl) ?_
      obtain ⟨r25, hr25, hm⟩ := bindS hm
      refine TL_callSub (id := 0) (i := (s0.2.2).toNat) (j := 1) (e' := a_Term (Term.mk x21.Const r25.2)) (es' := List.map a_Term ((s0.1.set ((s0.2.2).toNat) (Term.mk s0.2.1 x15.Coeffs)).set ((s0.2.2).toNat) (Term.mk x21.Const r25.2))) (fun E' => c_laws_markInt64S x21.Coeffs (w64 (s0.2.1 + (1 : Int))) r25 hr25 E') Try.call59 rfl rfl (get_map ((getI_spec hx21).2)) rfl rfl rfl rfl ⟨.inl ⟨rfl, rfl⟩, .inr ⟨rfl, rfl⟩, trivial⟩ rfl rfl rfl (List.map_set) rfl rfl rfl ?_
      refine TL_pure rfl rfl rfl rfl (op_assign rfl) ?_
      refine TL_nil ?_
      refine T_region ?_
      refine TL_pure rfl rfl rfl rfl (op_move rfl) ?_
      refine TL_pure rfl rfl rfl rfl (op_addW rfl rfl) ?_
      refine TL_pure rfl rfl rfl rfl (op_assign rfl) ?_
      refine TL_nil ?_
      refine TR_keepH [0, 1, 5] [0] rfl rfl rfl rfl (by rw [hF]; rfl) ?_
      obtain rfl := someI hm
      have hn := CtlOK_next hc0
      exact hn _ rfl
    · replace hm := condF hq hm
      refine T_keepH [1] [0] rfl rfl rfl rfl (by rw [hF]; rfl) ?_
      refine T_exit ?_
      obtain rfl := someI hm
      have hn := CtlOK_out hc0
      exact hx0 (s0.2.1, s0.1) hn
end Go.Mod
