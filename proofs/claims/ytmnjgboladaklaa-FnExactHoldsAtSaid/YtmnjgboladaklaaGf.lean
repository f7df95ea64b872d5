import Derived.Test.YtmnjgboladaklaaGe
namespace Go.Mod
open Go Go.AM Go.Proofs
set_option linter.unusedVariables false
set_option linter.unusedSimpArgs false
set_option maxRecDepth 100000
set_option maxHeartbeats 8000000
theorem c_impl_isOver (p0 : Term) (out : Bool) (hm : m_impl_isOver p0 = some out) : ACall Try.prog 102 [.agg [.int .i64 p0.Const, .sl 1 (List.map a_i64 p0.Coeffs)]] [] (.bool out) [] := by
  refine ACall.intro Try.func102 rfl Try.ntmps102 rfl (fun F hF => ?_)
  unfold m_impl_isOver at hm
  refine T_seq ?_
  refine T_region ?_
  refine TL_box 11 rfl rfl rfl rfl rfl rfl rfl ?_
  refine TL_pure rfl rfl rfl rfl (op_assign rfl) ?_
  refine TL_nil ?_
  refine T_seq ?_
  refine T_region ?_
  refine TL_pure rfl rfl rfl rfl (op_load_agg ag67 sz67 rfl rfl rfl) ?_
  obtain ⟨r4, hr4, hm⟩ := bindS hm
  refine TL_callF (c_impl_ValidTerm p0 r4 hr4) Try.call120 rfl rfl rfl rfl rfl ?_
  refine TL_pure rfl rfl rfl rfl (op_move rfl) ?_
  refine TL_join 5 (fun _ : Unit => ⟨[(10, .bool (r4 && (decide ((p0.Coeffs.length : Int) ≤ (4 : Int)))))], []⟩) (fun _ => True) (fun _ _ => ?_) (fun hjj => ?_)
  · refine TL_pure rfl rfl rfl rfl (op_assign rfl) ?_
    refine TL_nil ?_
    refine T_keepH [2] [] rfl rfl rfl rfl (by rw [hF]; rfl) ?_
    refine T_ret ?_
    obtain rfl := someI hm
    refine ⟨[_], [], ⟨rfl, trivial⟩, ?_, rfl, rfl, rfl, rfl⟩
    rfl
  · refine TL_split 5 rfl rfl rfl (fun hq => ?_) (fun hq => ?_)
    · refine TL_want rfl rfl ?_
      refine TL_pure rfl rfl rfl rfl (op_fieldAddr fa67_1 rfl rfl) ?_
      refine TL_want rfl rfl ?_
      refine TL_pure rfl rfl rfl rfl (op_load_one ag27 rfl rfl) ?_
      refine TL_want rfl rfl ?_
      refine TL_pure rfl rfl rfl rfl (op_lenT Try.underlying27 rfl (List.length_map _)) ?_
      refine TL_fact (fun _ _ _ hr => RelP.slLen (i := 7) rfl hr) (fun hlen8 => ?_)
      rw [List.length_map] at hlen8
      refine TL_want rfl rfl ?_
      refine TL_pure rfl rfl rfl rfl (op_leq rfl rfl) ?_
      refine TL_pure rfl rfl rfl rfl (op_pick_true rfl rfl) ?_
      refine TL_keepH [10] [] rfl rfl rfl rfl (by rw [hF]; rfl) ?_
      exact TL_cast _ (by first | (rw [hq, Bool.true_and]; done) | (rw [hq]; rfl)) (hjj () trivial)
    · refine TL_pass rfl rfl rfl rfl rfl rfl rfl ?_
      refine TL_pass rfl rfl rfl rfl rfl rfl rfl ?_
      refine TL_pass rfl rfl rfl rfl rfl rfl rfl ?_
      refine TL_pass rfl rfl rfl rfl rfl rfl rfl ?_
      refine TL_pure rfl rfl rfl rfl (op_pick_false rfl rfl) ?_
      refine TL_keepH [10] [] rfl rfl rfl rfl (by rw [hF]; rfl) ?_
      exact TL_cast _ (by first | (rw [hq, Bool.false_and]; done) | (rw [hq]; rfl)) (hjj () trivial)
theorem c_impl_isEvent (p0 : Int) (out : Bool) (hm : m_impl_isEvent p0 = some out) : ACall Try.prog 130 [.int .i64 p0] [] (.bool out) [] := by
  refine ACall.intro Try.func130 rfl Try.ntmps130 rfl (fun F hF => ?_)
  unfold m_impl_isEvent at hm
  refine T_seq ?_
  refine T_region ?_
  refine TL_pure rfl rfl rfl rfl (op_assign rfl) ?_
  refine TL_nil ?_
  refine T_seq ?_
  refine T_region ?_
  refine TL_pure rfl rfl rfl rfl (op_move rfl) ?_
  obtain ⟨r4, hr4, hm⟩ := bindS hm
  refine TL_callF (c_impl_within p0 (0 : Int) (3 : Int) r4 hr4) Try.call63 rfl rfl rfl rfl rfl ?_
  refine TL_pure rfl rfl rfl rfl (op_assign rfl) ?_
  refine TL_nil ?_
  refine T_keepH [2] [] rfl rfl rfl rfl (by rw [hF]; rfl) ?_
  refine T_ret ?_
  obtain rfl := someI hm
  refine ⟨[_], [], ⟨rfl, trivial⟩, ?_, rfl, rfl, rfl, rfl⟩
  rfl
theorem c_impl_areOver_1 (p0 : Term) (out : Bool) (hm : m_impl_areOver_1 p0 = some out) : ACall Try.prog 101 [.agg [.int .i64 p0.Const, .sl 1 (List.map a_i64 p0.Coeffs)]] [] (.bool out) [] := by
  refine ACall.intro Try.func101 rfl Try.ntmps101 rfl (fun F hF => ?_)
  unfold m_impl_areOver_1 at hm
  refine T_seq ?_
  refine T_region ?_
  refine TL_box 11 rfl rfl rfl rfl rfl rfl rfl ?_
  refine TL_pure rfl rfl rfl rfl (op_assign rfl) ?_
  refine TL_nil ?_
  refine T_seq ?_
  refine T_region ?_
  refine TL_pure rfl rfl rfl rfl (op_load_agg ag67 sz67 rfl rfl rfl) ?_
  obtain ⟨r4, hr4, hm⟩ := bindS hm
  refine TL_callF (c_impl_isOver p0 r4 hr4) Try.call102 rfl rfl rfl rfl rfl ?_
  refine TL_pure rfl rfl rfl rfl (op_not rfl) ?_
  refine TL_pure rfl rfl rfl rfl (op_assign rfl) ?_
  refine TL_nil ?_
  refine T_keepH [2] [] rfl rfl rfl rfl (by rw [hF]; rfl) ?_
  refine T_ret ?_
  obtain rfl := someI hm
  refine ⟨[_], [], ⟨rfl, trivial⟩, ?_, rfl, rfl, rfl, rfl⟩
  rfl
theorem c_slices_IndexFunc_impl_Term_impl_Term_fareOver_1 (p0 : List Term) (out : Int) (hm : m_slices_IndexFunc_impl_Term_impl_Term_fareOver_1 p0 = some out) : ACall Try.prog 119 [.sl 2 (List.map a_Term p0), .fn (.func 101) [] []] [] (.int .i64 out) [] := by
  refine ACall.intro Try.func119 rfl Try.ntmps119 rfl (fun F hF => ?_)
  unfold m_slices_IndexFunc_impl_Term_impl_Term_fareOver_1 at hm
  refine T_seq ?_
  refine T_region ?_
  refine TL_pure rfl rfl rfl rfl (op_assign rfl) ?_
  refine TL_nil ?_
  refine T_seq ?_
  refine T_seq ?_
  refine T_region ?_
  refine TL_pure rfl rfl rfl rfl (op_move rfl) ?_
  refine TL_pure rfl rfl rfl rfl (op_lenT Try.underlying30 rfl (List.length_map _)) ?_
  refine TL_fact (fun _ _ _ hr => RelP.slLen (i := 6) rfl hr) (fun hlen7 => ?_)
  rw [List.length_map] at hlen7
  refine TL_pure rfl rfl rfl rfl (op_move rfl) ?_
  refine TL_nil ?_
  refine T_block ?_
  refine T_keepH [0, 1, 7, 8] [] rfl rfl rfl rfl (by rw [hF]; rfl) ?_
  refine T_loop ?_
  obtain ⟨u0, hl0, hm⟩ := bindS hm
  refine TR_forL2 p0 (m_slices_IndexFunc_impl_Term_impl_Term_fareOver_1_L0) (fun (s0 : Unit) => (.inl ())) (fun n0 (s0 : Unit) => ⟨[(0, .sl 2 (List.map a_Term p0)), (1, .fn (.func 101) [] []), (7, .int .i64 (p0.length : Int)), (8, .int .i64 (n0 : Int))], []⟩) (fun u0 => match u0 with | .inl u0 => .exit 0 | .inr u0 => .ret) (fun u0 => match u0 with | .inl u0 => ⟨[], []⟩ | .inr u0 => ⟨[(4, .int .i64 u0)], []⟩) (fun u0 => m_slices_IndexFunc_impl_Term_impl_Term_fareOver_1_A0 u0 = some out) hl0 hm (fun u0 hm => ?_) (fun hx0 s0 hm => ?_) (fun hx0 n0 x0 s0 c0 hxn0 hlt0 hm hc0 => ?_)
  · rcases u0 with u0 | u0
    · unfold m_slices_IndexFunc_impl_Term_impl_Term_fareOver_1_A0 at hm
      refine T_seq ?_
      refine T_region ?_
      refine TL_pure rfl rfl rfl rfl (op_assign rfl) ?_
      refine TL_nil ?_
      refine T_keepH [4] [] rfl rfl rfl rfl (by rw [hF]; rfl) ?_
      refine T_ret ?_
      obtain rfl := someI hm
      refine ⟨[_], [], ⟨rfl, trivial⟩, ?_, rfl, rfl, rfl, rfl⟩
      rfl
    · unfold m_slices_IndexFunc_impl_Term_impl_Term_fareOver_1_A0 at hm
      obtain rfl := someI hm
      refine ⟨[_], [], ⟨rfl, trivial⟩, ?_, rfl, rfl, rfl, rfl⟩
      rfl
  · refine T_seq ?_
    refine T_region ?_
    refine TL_pure rfl rfl rfl rfl (op_lss rfl rfl) ?_
    refine TL_nil ?_
    refine T_seq ?_
    refine T_if_false rfl (decide_eq_false (by simp)) ?_
    refine T_keepH [] [] rfl rfl rfl rfl (by rw [hF]; rfl) ?_
    refine T_exit ?_
    exact hx0 (.inl ()) hm
  · unfold m_slices_IndexFunc_impl_Term_impl_Term_fareOver_1_L0 at hm
    refine T_seq ?_
    refine T_region ?_
    refine TL_pure rfl rfl rfl rfl (op_lss rfl rfl) ?_
    refine TL_nil ?_
    refine T_seq ?_
    refine T_if_true rfl (decide_eq_true (Int.ofNat_lt.2 hlt0)) ?_
    refine T_skip ?_
    refine T_seq ?_
    refine T_block ?_
    refine T_seq ?_
    refine T_region ?_
    refine TL_pure rfl rfl rfl rfl (op_move rfl) ?_
    refine TL_pure rfl rfl rfl rfl (op_assign rfl) ?_
    refine TL_nil ?_
    refine T_seq ?_
    refine T_region ?_
    refine TL_pure rfl rfl rfl rfl (op_move rfl) ?_
    refine TL_pure rfl rfl rfl rfl (op_move rfl) ?_
    refine TL_pure rfl rfl rfl rfl (op_move rfl) ?_
    refine TL_pure rfl rfl rfl rfl (op_index_sl el30 rfl rfl rfl (get_map hxn0) rfl) ?_
    refine TL_pure rfl rfl rfl rfl (op_load_agg ag67 sz67 rfl rfl rfl) ?_
    obtain ⟨r16, hr16, hm⟩ := bindS hm
    refine TL_callV rfl (c_impl_areOver_1 x0 r16 hr16) Try.call101 rfl rfl rfl rfl rfl ?_
    refine TL_nil ?_
    refine T_cond rfl (fun hq => ?_) (fun hq => ?_)
    · replace hm := condT hq hm
      refine T_seq ?_
      refine T_region ?_
      refine TL_pure rfl rfl rfl rfl (op_move rfl) ?_
      refine TL_pure rfl rfl rfl rfl (op_assign rfl) ?_
      refine TL_nil ?_
      refine T_keepH [4] [] rfl rfl rfl rfl (by rw [hF]; rfl) ?_
      refine T_ret ?_
      obtain rfl := someI hm
      have hn := CtlOK_out hc0
      exact hx0 (.inr (n0 : Int)) hn
    · replace hm := condF hq hm
      refine T_skip ?_
      refine T_region ?_
      refine TL_pure rfl rfl rfl rfl (op_addN rfl rfl (Nat.lt_of_lt_of_le hlt0 hlen7)) ?_
      refine TL_pure rfl rfl rfl rfl (op_move rfl) ?_
      refine TL_nil ?_
      refine TR_keepH [0, 1, 7, 8] [] rfl rfl rfl rfl (by rw [hF]; rfl) ?_
      obtain rfl := someI hm
      have hn := CtlOK_next hc0
      exact hn _ rfl
theorem c_slices_ContainsFunc_impl_Term_impl_Term_fareOver_1 (p0 : List Term) (out : Bool) (hm : m_slices_ContainsFunc_impl_Term_impl_Term_fareOver_1 p0 = some out) : ACall Try.prog 100 [.sl 2 (List.map a_Term p0), .fn (.func 101) [] []] [] (.bool out) [] := by
  refine ACall.intro Try.func100 rfl Try.ntmps100 rfl (fun F hF => ?_)
  unfold m_slices_ContainsFunc_impl_Term_impl_Term_fareOver_1 at hm
  refine T_seq ?_
  refine T_region ?_
  refine TL_pure rfl rfl rfl rfl (op_assign rfl) ?_
  refine TL_nil ?_
  refine T_seq ?_
  refine T_region ?_
  refine TL_pure rfl rfl rfl rfl (op_move rfl) ?_
  refine TL_pure rfl rfl rfl rfl (op_move rfl) ?_
  obtain ⟨r7, hr7, hm⟩ := bindS hm
  refine TL_callF (c_slices_IndexFunc_impl_Term_impl_Term_fareOver_1 p0 r7 hr7) Try.call119 rfl rfl rfl rfl rfl ?_
  refine TL_pure rfl rfl rfl rfl (op_geq rfl rfl) ?_
  refine TL_pure rfl rfl rfl rfl (op_assign rfl) ?_
  refine TL_nil ?_
  refine T_keepH [4] [] rfl rfl rfl rfl (by rw [hF]; rfl) ?_
  refine T_ret ?_
  obtain rfl := someI hm
  refine ⟨[_], [], ⟨rfl, trivial⟩, ?_, rfl, rfl, rfl, rfl⟩
  rfl
theorem c_impl_areOver (p0 : List Term) (p1 : Int) (out : Bool) (hm : m_impl_areOver p0 p1 = some out) : ACall Try.prog 82 [.sl 2 (List.map a_Term p0), .int .i64 p1] [] (.bool out) [] := by
  refine ACall.intro Try.func82 rfl Try.ntmps82 rfl (fun F hF => ?_)
  unfold m_impl_areOver at hm
  refine T_seq ?_
  refine T_region ?_
  refine TL_pure rfl rfl rfl rfl (op_assign rfl) ?_
  refine TL_nil ?_
  refine T_seq ?_
  refine T_region ?_
  refine TL_pure rfl rfl rfl rfl (op_move rfl) ?_
  refine TL_pure rfl rfl rfl rfl (op_lenT Try.underlying30 rfl (List.length_map _)) ?_
  refine TL_fact (fun _ _ _ hr => RelP.slLen (i := 5) rfl hr) (fun hlen6 => ?_)
  rw [List.length_map] at hlen6
  refine TL_pure rfl rfl rfl rfl (op_move rfl) ?_
  refine TL_pure rfl rfl rfl rfl (op_leq rfl rfl) ?_
  refine TL_pure rfl rfl rfl rfl (op_move rfl) ?_
  refine TL_split 9 rfl rfl rfl (fun hq => ?_) (fun hq => ?_)
  · replace hm := condT hq hm
    refine TL_want rfl rfl ?_
    refine TL_pure rfl rfl rfl rfl (op_move rfl) ?_
    refine TL_want rfl rfl ?_
    obtain ⟨r11, hr11, hm⟩ := bindS hm
    refine TL_callF (c_slices_ContainsFunc_impl_Term_impl_Term_fareOver_1 p0 r11 hr11) Try.call100 rfl rfl rfl rfl rfl ?_
    refine TL_want rfl rfl ?_
    refine TL_pure rfl rfl rfl rfl (op_not rfl) ?_
    refine TL_pure rfl rfl rfl rfl (op_pick_true rfl rfl) ?_
    refine TL_pure rfl rfl rfl rfl (op_assign rfl) ?_
    refine TL_nil ?_
    refine T_keepH [4] [] rfl rfl rfl rfl (by rw [hF]; rfl) ?_
    refine T_ret ?_
    obtain rfl := someI hm
    refine ⟨[_], [], ⟨rfl, trivial⟩, ?_, rfl, rfl, rfl, rfl⟩
    rfl
  · replace hm := condF hq hm
    refine TL_pass rfl rfl rfl rfl rfl rfl rfl ?_
    refine TL_pass rfl rfl rfl rfl rfl rfl rfl ?_
    refine TL_pass rfl rfl rfl rfl rfl rfl rfl ?_
    refine TL_pure rfl rfl rfl rfl (op_pick_false rfl rfl) ?_
    refine TL_pure rfl rfl rfl rfl (op_assign rfl) ?_
    refine TL_nil ?_
    refine T_keepH [4] [] rfl rfl rfl rfl (by rw [hF]; rfl) ?_
    refine T_ret ?_
    obtain rfl := someI hm
    refine ⟨[_], [], ⟨rfl, trivial⟩, ?_, rfl, rfl, rfl, rfl⟩
    rfl
theorem c_impl_kidsOf (p0 : Stmt) (out : Int) (hm : m_impl_kidsOf p0 = some out) : ACall Try.prog 117 [.agg [.int .i64 p0.Kind, .int .i64 p0.Var, .int .i64 p0.Event, .int .i64 p0.Sum.Const, .sl 1 (List.map a_i64 p0.Sum.Coeffs), .int .i64 p0.Index.Const, .sl 1 (List.map a_i64 p0.Index.Coeffs), .sl 2 (List.map a_Term p0.Facts)]] [] (.int .i64 out) [] := by
  refine ACall.intro Try.func117 rfl Try.ntmps117 rfl (fun F hF => ?_)
  unfold m_impl_kidsOf at hm
  refine T_seq ?_
  refine T_region ?_
  refine TL_box 11 rfl rfl rfl rfl rfl rfl rfl ?_
  refine TL_pure rfl rfl rfl rfl (op_assign rfl) ?_
  refine TL_nil ?_
  refine T_seq ?_
  refine T_drawZ [] mix (by kernel_rfl) rfl ?_
  obtain ⟨r17, hr17, hm⟩ := bindS hm
  obtain ⟨r20, hr20, hm⟩ := bindS hm
  refine TZ_pure 0 (by kernel_rfl) rfl rfl rfl rfl rfl (op_fieldAddr fa69_1 rfl rfl) ?_
  refine TZ_pure 1 (by kernel_rfl) rfl rfl rfl rfl rfl (op_load_one ag2 rfl rfl) ?_
  refine TZ_pure 2 (by kernel_rfl) rfl rfl rfl rfl rfl (op_eql rfl rfl) ?_
  refine TZ_pure 3 (by kernel_rfl) rfl rfl rfl rfl rfl (op_fieldAddr fa69_2 rfl rfl) ?_
  refine TZ_pure 4 (by kernel_rfl) rfl rfl rfl rfl rfl (op_load_one ag2 rfl rfl) ?_
  refine TZ_pure 5 (by kernel_rfl) rfl rfl rfl rfl rfl (op_eql rfl rfl) ?_
  refine TZ_pure 6 (by kernel_rfl) rfl rfl rfl rfl rfl (op_fieldAddr fa69_3 rfl rfl) ?_
  refine TZ_pure 7 (by kernel_rfl) rfl rfl rfl rfl rfl (op_load_agg ag67 sz67 rfl rfl rfl) ?_
  refine TZ_pure 9 (by kernel_rfl) rfl rfl rfl rfl rfl (op_fieldAddr fa69_4 rfl rfl) ?_
  refine TZ_pure 10 (by kernel_rfl) rfl rfl rfl rfl rfl (op_load_agg ag67 sz67 rfl rfl rfl) ?_
  refine TZ_pure 12 (by kernel_rfl) rfl rfl rfl rfl rfl (op_fieldAddr fa69_5 rfl rfl) ?_
  refine TZ_pure 13 (by kernel_rfl) rfl rfl rfl rfl rfl (op_load_one ag30 rfl rfl) ?_
  refine TZ_pure 14 (by kernel_rfl) rfl rfl rfl rfl rfl (op_lenT Try.underlying30 rfl (List.length_map _)) ?_
  refine TZ_fact (fun _ _ _ hr => RelP.slLen (i := 22) rfl hr) (fun hlen23 => ?_)
  rw [List.length_map] at hlen23
  refine TZ_pure 15 (by kernel_rfl) rfl rfl rfl rfl rfl (op_eql rfl rfl) ?_
  refine TZ_one 8 (by kernel_rfl) rfl ?_
  refine TL_callF (c_impl_Term_isZero p0.Sum r17 hr17) Try.call128 rfl rfl rfl rfl rfl ?_
  refine TL_nil ?_
  refine TZ_one 11 (by kernel_rfl) rfl ?_
  refine TL_callF (c_impl_Term_isZero p0.Index r20 hr20) Try.call128 rfl rfl rfl rfl rfl ?_
  refine TL_nil ?_
  refine TZ_pure 16 (by kernel_rfl) rfl rfl rfl rfl rfl (op_assign rfl) ?_
  refine TZ_pure 17 (by kernel_rfl) rfl rfl rfl rfl rfl (op_assign rfl) ?_
  refine TZ_pure 18 (by kernel_rfl) rfl rfl rfl rfl rfl (op_assign rfl) ?_
  refine TZ_pure 19 (by kernel_rfl) rfl rfl rfl rfl rfl (op_assign rfl) ?_
  refine TZ_pure 20 (by kernel_rfl) rfl rfl rfl rfl rfl (op_assign rfl) ?_
  refine TZ_done (by kernel_rfl) ?_
  refine T_seq ?_
  refine T_region ?_
  refine TL_pure rfl rfl rfl rfl (op_assign rfl) ?_
  refine TL_nil ?_
  refine T_seq ?_
  refine T_seq ?_
  refine T_region ?_
  refine TL_pure rfl rfl rfl rfl (op_fieldAddr fa69_0 rfl rfl) ?_
  refine TL_pure rfl rfl rfl rfl (op_load_one ag2 rfl rfl) ?_
  refine TL_nil ?_
  refine T_block ?_
  refine T_seq ?_
  refine T_region ?_
  refine TL_pure rfl rfl rfl rfl (op_eql rfl rfl) ?_
  refine TL_pure rfl rfl rfl rfl (op_assign rfl) ?_
  refine TL_nil ?_
  refine T_cond rfl (fun hq => ?_) (fun hq => ?_)
  · replace hm := condT hq hm
    refine T_seq ?_
    refine T_region ?_
    refine TL_pure rfl rfl rfl rfl (op_move rfl) ?_
    refine TL_pure rfl rfl rfl rfl (op_move rfl) ?_
    refine TL_join 2 (fun _ : Unit => ⟨[(5, .bool r17), (6, .bool r20), (7, .bool (decide ((p0.Facts.length : Int) = (0 : Int)))), (8, .int .i64 (-1 : Int)), (32, .bool ((decide (p0.Var = (0 : Int))) && (decide (p0.Event = (0 : Int)))))], []⟩) (fun _ => True) (fun _ _ => ?_) (fun hjj => ?_)
    · refine TL_pure rfl rfl rfl rfl (op_move rfl) ?_
      refine TL_join 2 (fun _ : Unit => ⟨[(6, .bool r20), (7, .bool (decide ((p0.Facts.length : Int) = (0 : Int)))), (8, .int .i64 (-1 : Int)), (35, .bool (((decide (p0.Var = (0 : Int))) && (decide (p0.Event = (0 : Int)))) && r17))], []⟩) (fun _ => True) (fun _ _ => ?_) (fun hjj => ?_)
      · refine TL_pure rfl rfl rfl rfl (op_move rfl) ?_
        refine TL_join 2 (fun _ : Unit => ⟨[(7, .bool (decide ((p0.Facts.length : Int) = (0 : Int)))), (8, .int .i64 (-1 : Int)), (38, .bool ((((decide (p0.Var = (0 : Int))) && (decide (p0.Event = (0 : Int)))) && r17) && r20))], []⟩) (fun _ => True) (fun _ _ => ?_) (fun hjj => ?_)
        · refine TL_pure rfl rfl rfl rfl (op_move rfl) ?_
          refine TL_join 2 (fun _ : Unit => ⟨[(8, .int .i64 (-1 : Int)), (41, .bool (((((decide (p0.Var = (0 : Int))) && (decide (p0.Event = (0 : Int)))) && r17) && r20) && (decide ((p0.Facts.length : Int) = (0 : Int)))))], []⟩) (fun _ => True) (fun _ _ => ?_) (fun hjj => ?_)
          · refine TL_nil ?_
            refine T_cond rfl (fun hq => ?_) (fun hq => ?_)
            · replace hm := condT hq hm
              refine T_region ?_
              refine TL_pure rfl rfl rfl rfl (op_assign rfl) ?_
              refine TL_nil ?_
              refine T_seq ?_
              refine T_region ?_
              refine TL_pure rfl rfl rfl rfl (op_move rfl) ?_
              refine TL_pure rfl rfl rfl rfl (op_assign rfl) ?_
              refine TL_nil ?_
              refine T_keepH [2] [] rfl rfl rfl rfl (by rw [hF]; rfl) ?_
              refine T_ret ?_
              obtain rfl := someI hm
              refine ⟨[_], [], ⟨rfl, trivial⟩, ?_, rfl, rfl, rfl, rfl⟩
              rfl
            · replace hm := condF hq hm
              refine T_skip ?_
              refine T_seq ?_
              refine T_region ?_
              refine TL_pure rfl rfl rfl rfl (op_move rfl) ?_
              refine TL_pure rfl rfl rfl rfl (op_assign rfl) ?_
              refine TL_nil ?_
              refine T_keepH [2] [] rfl rfl rfl rfl (by rw [hF]; rfl) ?_
              refine T_ret ?_
              obtain rfl := someI hm
              refine ⟨[_], [], ⟨rfl, trivial⟩, ?_, rfl, rfl, rfl, rfl⟩
              rfl
          · refine TL_split 39 rfl rfl rfl (fun hq => ?_) (fun hq => ?_)
            · refine TL_want rfl rfl ?_
              refine TL_pure rfl rfl rfl rfl (op_move rfl) ?_
              refine TL_pure rfl rfl rfl rfl (op_pick_true rfl rfl) ?_
              refine TL_keepH [8, 41] [] rfl rfl rfl rfl (by rw [hF]; rfl) ?_
              exact TL_cast _ (by first | (rw [hq, Bool.true_and]; done) | (rw [hq]; rfl)) (hjj () trivial)
            · refine TL_pass rfl rfl rfl rfl rfl rfl rfl ?_
              refine TL_pure rfl rfl rfl rfl (op_pick_false rfl rfl) ?_
              refine TL_keepH [8, 41] [] rfl rfl rfl rfl (by rw [hF]; rfl) ?_
              exact TL_cast _ (by first | (rw [hq, Bool.false_and]; done) | (rw [hq]; rfl)) (hjj () trivial)
        · refine TL_split 36 rfl rfl rfl (fun hq => ?_) (fun hq => ?_)
          · refine TL_want rfl rfl ?_
            refine TL_pure rfl rfl rfl rfl (op_move rfl) ?_
            refine TL_pure rfl rfl rfl rfl (op_pick_true rfl rfl) ?_
            refine TL_keepH [7, 8, 38] [] rfl rfl rfl rfl (by rw [hF]; rfl) ?_
            exact TL_cast _ (by first | (rw [hq, Bool.true_and]; done) | (rw [hq]; rfl)) (hjj () trivial)
          · refine TL_pass rfl rfl rfl rfl rfl rfl rfl ?_
            refine TL_pure rfl rfl rfl rfl (op_pick_false rfl rfl) ?_
            refine TL_keepH [7, 8, 38] [] rfl rfl rfl rfl (by rw [hF]; rfl) ?_
            exact TL_cast _ (by first | (rw [hq, Bool.false_and]; done) | (rw [hq]; rfl)) (hjj () trivial)
      · refine TL_split 33 rfl rfl rfl (fun hq => ?_) (fun hq => ?_)
        · refine TL_want rfl rfl ?_
          refine TL_pure rfl rfl rfl rfl (op_move rfl) ?_
          refine TL_pure rfl rfl rfl rfl (op_pick_true rfl rfl) ?_
          refine TL_keepH [6, 7, 8, 35] [] rfl rfl rfl rfl (by rw [hF]; rfl) ?_
          exact TL_cast _ (by first | (rw [hq, Bool.true_and]; done) | (rw [hq]; rfl)) (hjj () trivial)
        · refine TL_pass rfl rfl rfl rfl rfl rfl rfl ?_
          refine TL_pure rfl rfl rfl rfl (op_pick_false rfl rfl) ?_
          refine TL_keepH [6, 7, 8, 35] [] rfl rfl rfl rfl (by rw [hF]; rfl) ?_
          exact TL_cast _ (by first | (rw [hq, Bool.false_and]; done) | (rw [hq]; rfl)) (hjj () trivial)
    · refine TL_split 30 rfl rfl rfl (fun hq => ?_) (fun hq => ?_)
      · refine TL_want rfl rfl ?_
        refine TL_pure rfl rfl rfl rfl (op_move rfl) ?_
        refine TL_pure rfl rfl rfl rfl (op_pick_true rfl rfl) ?_
        refine TL_keepH [5, 6, 7, 8, 32] [] rfl rfl rfl rfl (by rw [hF]; rfl) ?_
        exact TL_cast _ (by first | (rw [hq, Bool.true_and]; done) | (rw [hq]; rfl)) (hjj () trivial)
      · refine TL_pass rfl rfl rfl rfl rfl rfl rfl ?_
        refine TL_pure rfl rfl rfl rfl (op_pick_false rfl rfl) ?_
        refine TL_keepH [5, 6, 7, 8, 32] [] rfl rfl rfl rfl (by rw [hF]; rfl) ?_
        exact TL_cast _ (by first | (rw [hq, Bool.false_and]; done) | (rw [hq]; rfl)) (hjj () trivial)
  · replace hm := condF hq hm
    refine T_seq ?_
    refine T_region ?_
    refine TL_pure rfl rfl rfl rfl (op_eql rfl rfl) ?_
    refine TL_pure rfl rfl rfl rfl (op_assign rfl) ?_
    refine TL_nil ?_
    refine T_cond rfl (fun hq => ?_) (fun hq => ?_)
    · replace hm := condT hq hm
      refine T_seq ?_
      refine T_region ?_
      refine TL_pure rfl rfl rfl rfl (op_move rfl) ?_
      refine TL_pure rfl rfl rfl rfl (op_move rfl) ?_
      refine TL_join 2 (fun _ : Unit => ⟨[(5, .bool r17), (6, .bool r20), (7, .bool (decide ((p0.Facts.length : Int) = (0 : Int)))), (8, .int .i64 (-1 : Int)), (47, .bool ((decide (p0.Var = (0 : Int))) && (decide (p0.Event = (0 : Int)))))], []⟩) (fun _ => True) (fun _ _ => ?_) (fun hjj => ?_)
      · refine TL_pure rfl rfl rfl rfl (op_move rfl) ?_
        refine TL_join 2 (fun _ : Unit => ⟨[(6, .bool r20), (7, .bool (decide ((p0.Facts.length : Int) = (0 : Int)))), (8, .int .i64 (-1 : Int)), (50, .bool (((decide (p0.Var = (0 : Int))) && (decide (p0.Event = (0 : Int)))) && r17))], []⟩) (fun _ => True) (fun _ _ => ?_) (fun hjj => ?_)
        · refine TL_pure rfl rfl rfl rfl (op_move rfl) ?_
          refine TL_join 2 (fun _ : Unit => ⟨[(7, .bool (decide ((p0.Facts.length : Int) = (0 : Int)))), (8, .int .i64 (-1 : Int)), (53, .bool ((((decide (p0.Var = (0 : Int))) && (decide (p0.Event = (0 : Int)))) && r17) && r20))], []⟩) (fun _ => True) (fun _ _ => ?_) (fun hjj => ?_)
          · refine TL_pure rfl rfl rfl rfl (op_move rfl) ?_
            refine TL_join 2 (fun _ : Unit => ⟨[(8, .int .i64 (-1 : Int)), (56, .bool (((((decide (p0.Var = (0 : Int))) && (decide (p0.Event = (0 : Int)))) && r17) && r20) && (decide ((p0.Facts.length : Int) = (0 : Int)))))], []⟩) (fun _ => True) (fun _ _ => ?_) (fun hjj => ?_)
            · refine TL_nil ?_
              refine T_cond rfl (fun hq => ?_) (fun hq => ?_)
              · replace hm := condT hq hm
                refine T_region ?_
                refine TL_pure rfl rfl rfl rfl (op_assign rfl) ?_
                refine TL_nil ?_
                refine T_seq ?_
                refine T_region ?_
                refine TL_pure rfl rfl rfl rfl (op_move rfl) ?_
                refine TL_pure rfl rfl rfl rfl (op_assign rfl) ?_
                refine TL_nil ?_
                refine T_keepH [2] [] rfl rfl rfl rfl (by rw [hF]; rfl) ?_
                refine T_ret ?_
                obtain rfl := someI hm
                refine ⟨[_], [], ⟨rfl, trivial⟩, ?_, rfl, rfl, rfl, rfl⟩
                rfl
              · replace hm := condF hq hm
                refine T_skip ?_
                refine T_seq ?_
                refine T_region ?_
                refine TL_pure rfl rfl rfl rfl (op_move rfl) ?_
                refine TL_pure rfl rfl rfl rfl (op_assign rfl) ?_
                refine TL_nil ?_
                refine T_keepH [2] [] rfl rfl rfl rfl (by rw [hF]; rfl) ?_
                refine T_ret ?_
                obtain rfl := someI hm
                refine ⟨[_], [], ⟨rfl, trivial⟩, ?_, rfl, rfl, rfl, rfl⟩
                rfl
            · refine TL_split 54 rfl rfl rfl (fun hq => ?_) (fun hq => ?_)
              · refine TL_want rfl rfl ?_
                refine TL_pure rfl rfl rfl rfl (op_move rfl) ?_
                refine TL_pure rfl rfl rfl rfl (op_pick_true rfl rfl) ?_
                refine TL_keepH [8, 56] [] rfl rfl rfl rfl (by rw [hF]; rfl) ?_
                exact TL_cast _ (by first | (rw [hq, Bool.true_and]; done) | (rw [hq]; rfl)) (hjj () trivial)
              · refine TL_pass rfl rfl rfl rfl rfl rfl rfl ?_
                refine TL_pure rfl rfl rfl rfl (op_pick_false rfl rfl) ?_
                refine TL_keepH [8, 56] [] rfl rfl rfl rfl (by rw [hF]; rfl) ?_
                exact TL_cast _ (by first | (rw [hq, Bool.false_and]; done) | (rw [hq]; rfl)) (hjj () trivial)
          · refine TL_split 51 rfl rfl rfl (fun hq => ?_) (fun hq => ?_)
            · refine TL_want rfl rfl ?_
              refine TL_pure rfl rfl rfl rfl (op_move rfl) ?_
              refine TL_pure rfl rfl rfl rfl (op_pick_true rfl rfl) ?_
              refine TL_keepH [7, 8, 53] [] rfl rfl rfl rfl (by rw [hF]; rfl) ?_
              exact TL_cast _ (by first | (rw [hq, Bool.true_and]; done) | (rw [hq]; rfl)) (hjj () trivial)
            · refine TL_pass rfl rfl rfl rfl rfl rfl rfl ?_
              refine TL_pure rfl rfl rfl rfl (op_pick_false rfl rfl) ?_
              refine TL_keepH [7, 8, 53] [] rfl rfl rfl rfl (by rw [hF]; rfl) ?_
              exact TL_cast _ (by first | (rw [hq, Bool.false_and]; done) | (rw [hq]; rfl)) (hjj () trivial)
        · refine TL_split 48 rfl rfl rfl (fun hq => ?_) (fun hq => ?_)
          · refine TL_want rfl rfl ?_
            refine TL_pure rfl rfl rfl rfl (op_move rfl) ?_
            refine TL_pure rfl rfl rfl rfl (op_pick_true rfl rfl) ?_
            refine TL_keepH [6, 7, 8, 50] [] rfl rfl rfl rfl (by rw [hF]; rfl) ?_
            exact TL_cast _ (by first | (rw [hq, Bool.true_and]; done) | (rw [hq]; rfl)) (hjj () trivial)
          · refine TL_pass rfl rfl rfl rfl rfl rfl rfl ?_
            refine TL_pure rfl rfl rfl rfl (op_pick_false rfl rfl) ?_
            refine TL_keepH [6, 7, 8, 50] [] rfl rfl rfl rfl (by rw [hF]; rfl) ?_
            exact TL_cast _ (by first | (rw [hq, Bool.false_and]; done) | (rw [hq]; rfl)) (hjj () trivial)
      · refine TL_split 45 rfl rfl rfl (fun hq => ?_) (fun hq => ?_)
        · refine TL_want rfl rfl ?_
          refine TL_pure rfl rfl rfl rfl (op_move rfl) ?_
          refine TL_pure rfl rfl rfl rfl (op_pick_true rfl rfl) ?_
          refine TL_keepH [5, 6, 7, 8, 47] [] rfl rfl rfl rfl (by rw [hF]; rfl) ?_
          exact TL_cast _ (by first | (rw [hq, Bool.true_and]; done) | (rw [hq]; rfl)) (hjj () trivial)
        · refine TL_pass rfl rfl rfl rfl rfl rfl rfl ?_
          refine TL_pure rfl rfl rfl rfl (op_pick_false rfl rfl) ?_
          refine TL_keepH [5, 6, 7, 8, 47] [] rfl rfl rfl rfl (by rw [hF]; rfl) ?_
          exact TL_cast _ (by first | (rw [hq, Bool.false_and]; done) | (rw [hq]; rfl)) (hjj () trivial)
    · replace hm := condF hq hm
      refine T_seq ?_
      refine T_region ?_
      refine TL_pure rfl rfl rfl rfl (op_eql rfl rfl) ?_
      refine TL_pure rfl rfl rfl rfl (op_assign rfl) ?_
      refine TL_nil ?_
      refine T_cond rfl (fun hq => ?_) (fun hq => ?_)
      · replace hm := condT hq hm
        refine T_seq ?_
        refine T_region ?_
        refine TL_pure rfl rfl rfl rfl (op_fieldAddr fa69_1 rfl rfl) ?_
        refine TL_pure rfl rfl rfl rfl (op_load_one ag2 rfl rfl) ?_
        obtain ⟨r61, hr61, hm⟩ := bindS hm
        refine TL_callF (c_impl_isVar p0.Var r61 hr61) Try.call129 rfl rfl rfl rfl rfl ?_
        refine TL_pure rfl rfl rfl rfl (op_move rfl) ?_
        refine TL_join 2 (fun _ : Unit => ⟨[(1, .ptr 11 0 0), (6, .bool r20), (7, .bool (decide ((p0.Facts.length : Int) = (0 : Int)))), (8, .int .i64 (-1 : Int)), (64, .bool (r61 && (decide (p0.Event = (0 : Int)))))], [(11, .box [.int .i64 p0.Kind, .int .i64 p0.Var, .int .i64 p0.Event, .int .i64 p0.Sum.Const, .sl 1 (List.map a_i64 p0.Sum.Coeffs), .int .i64 p0.Index.Const, .sl 1 (List.map a_i64 p0.Index.Coeffs), .sl 2 (List.map a_Term p0.Facts)])]⟩) (fun _ => True) (fun _ _ => ?_) (fun hjj => ?_)
        · refine TL_pure rfl rfl rfl rfl (op_move rfl) ?_
          refine TL_split 65 rfl rfl rfl (fun hq => ?_) (fun hq => ?_)
          · replace hm := condT hq hm
            refine TL_want rfl rfl ?_
            refine TL_pure rfl rfl rfl rfl (op_fieldAddr fa69_3 rfl rfl) ?_
            refine TL_want rfl rfl ?_
            refine TL_pure rfl rfl rfl rfl (op_load_agg ag67 sz67 rfl rfl rfl) ?_
            refine TL_want rfl rfl ?_
            obtain ⟨r68, hr68, hm⟩ := bindS hm
            refine TL_callF (c_impl_isOver p0.Sum r68 hr68) Try.call102 rfl rfl rfl rfl rfl ?_
            refine TL_pure rfl rfl rfl rfl (op_pick_true rfl rfl) ?_
            refine TL_pure rfl rfl rfl rfl (op_move rfl) ?_
            refine TL_join 2 (fun _ : Unit => ⟨[(7, .bool (decide ((p0.Facts.length : Int) = (0 : Int)))), (8, .int .i64 (-1 : Int)), (72, .bool (r68 && r20))], []⟩) (fun _ => True) (fun _ _ => ?_) (fun hjj => ?_)
            · refine TL_pure rfl rfl rfl rfl (op_move rfl) ?_
              refine TL_join 2 (fun _ : Unit => ⟨[(8, .int .i64 (-1 : Int)), (75, .bool ((r68 && r20) && (decide ((p0.Facts.length : Int) = (0 : Int)))))], []⟩) (fun _ => True) (fun _ _ => ?_) (fun hjj => ?_)
              · refine TL_nil ?_
                refine T_cond rfl (fun hq => ?_) (fun hq => ?_)
                · replace hm := condT hq hm
                  refine T_region ?_
                  refine TL_pure rfl rfl rfl rfl (op_assign rfl) ?_
                  refine TL_nil ?_
                  refine T_seq ?_
                  refine T_region ?_
                  refine TL_pure rfl rfl rfl rfl (op_move rfl) ?_
                  refine TL_pure rfl rfl rfl rfl (op_assign rfl) ?_
                  refine TL_nil ?_
                  refine T_keepH [2] [] rfl rfl rfl rfl (by rw [hF]; rfl) ?_
                  refine T_ret ?_
                  obtain rfl := someI hm
                  refine ⟨[_], [], ⟨rfl, trivial⟩, ?_, rfl, rfl, rfl, rfl⟩
                  rfl
                · replace hm := condF hq hm
                  refine T_skip ?_
                  refine T_seq ?_
                  refine T_region ?_
                  refine TL_pure rfl rfl rfl rfl (op_move rfl) ?_
                  refine TL_pure rfl rfl rfl rfl (op_assign rfl) ?_
                  refine TL_nil ?_
                  refine T_keepH [2] [] rfl rfl rfl rfl (by rw [hF]; rfl) ?_
                  refine T_ret ?_
                  obtain rfl := someI hm
                  refine ⟨[_], [], ⟨rfl, trivial⟩, ?_, rfl, rfl, rfl, rfl⟩
                  rfl
              · refine TL_split 73 rfl rfl rfl (fun hq => ?_) (fun hq => ?_)
                · refine TL_want rfl rfl ?_
                  refine TL_pure rfl rfl rfl rfl (op_move rfl) ?_
                  refine TL_pure rfl rfl rfl rfl (op_pick_true rfl rfl) ?_
                  refine TL_keepH [8, 75] [] rfl rfl rfl rfl (by rw [hF]; rfl) ?_
                  exact TL_cast _ (by first | (rw [hq, Bool.true_and]; done) | (rw [hq]; rfl)) (hjj () trivial)
                · refine TL_pass rfl rfl rfl rfl rfl rfl rfl ?_
                  refine TL_pure rfl rfl rfl rfl (op_pick_false rfl rfl) ?_
                  refine TL_keepH [8, 75] [] rfl rfl rfl rfl (by rw [hF]; rfl) ?_
                  exact TL_cast _ (by first | (rw [hq, Bool.false_and]; done) | (rw [hq]; rfl)) (hjj () trivial)
            · refine TL_split 70 rfl rfl rfl (fun hq => ?_) (fun hq => ?_)
              · refine TL_want rfl rfl ?_
                refine TL_pure rfl rfl rfl rfl (op_move rfl) ?_
                refine TL_pure rfl rfl rfl rfl (op_pick_true rfl rfl) ?_
                refine TL_keepH [7, 8, 72] [] rfl rfl rfl rfl (by rw [hF]; rfl) ?_
                exact TL_cast _ (by first | (rw [hq, Bool.true_and]; done) | (rw [hq]; rfl)) (hjj () trivial)
              · refine TL_pass rfl rfl rfl rfl rfl rfl rfl ?_
                refine TL_pure rfl rfl rfl rfl (op_pick_false rfl rfl) ?_
                refine TL_keepH [7, 8, 72] [] rfl rfl rfl rfl (by rw [hF]; rfl) ?_
                exact TL_cast _ (by first | (rw [hq, Bool.false_and]; done) | (rw [hq]; rfl)) (hjj () trivial)
          · replace hm := condF hq hm
            refine TL_pass rfl rfl rfl rfl rfl rfl rfl ?_
            refine TL_pass rfl rfl rfl rfl rfl rfl rfl ?_
            refine TL_pass rfl rfl rfl rfl rfl rfl rfl ?_
            refine TL_pure rfl rfl rfl rfl (op_pick_false rfl rfl) ?_
            refine TL_pure rfl rfl rfl rfl (op_move rfl) ?_
            refine TL_pass rfl rfl rfl rfl rfl rfl rfl ?_
            refine TL_pure rfl rfl rfl rfl (op_pick_false rfl rfl) ?_
            refine TL_pure rfl rfl rfl rfl (op_move rfl) ?_
            refine TL_pass rfl rfl rfl rfl rfl rfl rfl ?_
            refine TL_pure rfl rfl rfl rfl (op_pick_false rfl rfl) ?_
            refine TL_nil ?_
            refine T_cond_false rfl ?_
            refine T_skip ?_
            refine T_seq ?_
            refine T_region ?_
            refine TL_pure rfl rfl rfl rfl (op_move rfl) ?_
            refine TL_pure rfl rfl rfl rfl (op_assign rfl) ?_
            refine TL_nil ?_
            refine T_keepH [2] [] rfl rfl rfl rfl (by rw [hF]; rfl) ?_
            refine T_ret ?_
            obtain rfl := someI hm
            refine ⟨[_], [], ⟨rfl, trivial⟩, ?_, rfl, rfl, rfl, rfl⟩
            rfl
        · refine TL_split 62 rfl rfl rfl (fun hq => ?_) (fun hq => ?_)
          · refine TL_want rfl rfl ?_
            refine TL_pure rfl rfl rfl rfl (op_move rfl) ?_
            refine TL_pure rfl rfl rfl rfl (op_pick_true rfl rfl) ?_
            refine TL_keepH [1, 6, 7, 8, 64] [11] rfl rfl rfl rfl (by rw [hF]; rfl) ?_
            exact TL_cast _ (by first | (rw [hq, Bool.true_and]; done) | (rw [hq]; rfl)) (hjj () trivial)
          · refine TL_pass rfl rfl rfl rfl rfl rfl rfl ?_
            refine TL_pure rfl rfl rfl rfl (op_pick_false rfl rfl) ?_
            refine TL_keepH [1, 6, 7, 8, 64] [11] rfl rfl rfl rfl (by rw [hF]; rfl) ?_
            exact TL_cast _ (by first | (rw [hq, Bool.false_and]; done) | (rw [hq]; rfl)) (hjj () trivial)
      · replace hm := condF hq hm
        refine T_seq ?_
        refine T_region ?_
        refine TL_pure rfl rfl rfl rfl (op_eql rfl rfl) ?_
        refine TL_pure rfl rfl rfl rfl (op_assign rfl) ?_
        refine TL_nil ?_
        refine T_cond rfl (fun hq => ?_) (fun hq => ?_)
        · replace hm := condT hq hm
          refine T_seq ?_
          refine T_region ?_
          refine TL_pure rfl rfl rfl rfl (op_fieldAddr fa69_1 rfl rfl) ?_
          refine TL_pure rfl rfl rfl rfl (op_load_one ag2 rfl rfl) ?_
          obtain ⟨r80, hr80, hm⟩ := bindS hm
          refine TL_callF (c_impl_isVar p0.Var r80 hr80) Try.call129 rfl rfl rfl rfl rfl ?_
          refine TL_pure rfl rfl rfl rfl (op_move rfl) ?_
          refine TL_join 2 (fun _ : Unit => ⟨[(1, .ptr 11 0 0), (5, .bool r17), (7, .bool (decide ((p0.Facts.length : Int) = (0 : Int)))), (8, .int .i64 (-1 : Int)), (83, .bool (r80 && (decide (p0.Event = (0 : Int)))))], [(11, .box [.int .i64 p0.Kind, .int .i64 p0.Var, .int .i64 p0.Event, .int .i64 p0.Sum.Const, .sl 1 (List.map a_i64 p0.Sum.Coeffs), .int .i64 p0.Index.Const, .sl 1 (List.map a_i64 p0.Index.Coeffs), .sl 2 (List.map a_Term p0.Facts)])]⟩) (fun _ => True) (fun _ _ => ?_) (fun hjj => ?_)
          · refine TL_pure rfl rfl rfl rfl (op_move rfl) ?_
            refine TL_join 2 (fun _ : Unit => ⟨[(1, .ptr 11 0 0), (7, .bool (decide ((p0.Facts.length : Int) = (0 : Int)))), (8, .int .i64 (-1 : Int)), (86, .bool ((r80 && (decide (p0.Event = (0 : Int)))) && r17))], [(11, .box [.int .i64 p0.Kind, .int .i64 p0.Var, .int .i64 p0.Event, .int .i64 p0.Sum.Const, .sl 1 (List.map a_i64 p0.Sum.Coeffs), .int .i64 p0.Index.Const, .sl 1 (List.map a_i64 p0.Index.Coeffs), .sl 2 (List.map a_Term p0.Facts)])]⟩) (fun _ => True) (fun _ _ => ?_) (fun hjj => ?_)
            · refine TL_pure rfl rfl rfl rfl (op_move rfl) ?_
              refine TL_split 87 rfl rfl rfl (fun hq => ?_) (fun hq => ?_)
              · replace hm := condT hq hm
                refine TL_want rfl rfl ?_
                refine TL_pure rfl rfl rfl rfl (op_fieldAddr fa69_4 rfl rfl) ?_
                refine TL_want rfl rfl ?_
                refine TL_pure rfl rfl rfl rfl (op_load_agg ag67 sz67 rfl rfl rfl) ?_
                refine TL_want rfl rfl ?_
                obtain ⟨r90, hr90, hm⟩ := bindS hm
                refine TL_callF (c_impl_isOver p0.Index r90 hr90) Try.call102 rfl rfl rfl rfl rfl ?_
                refine TL_pure rfl rfl rfl rfl (op_pick_true rfl rfl) ?_
                refine TL_pure rfl rfl rfl rfl (op_move rfl) ?_
                refine TL_join 2 (fun _ : Unit => ⟨[(8, .int .i64 (-1 : Int)), (94, .bool (r90 && (decide ((p0.Facts.length : Int) = (0 : Int)))))], []⟩) (fun _ => True) (fun _ _ => ?_) (fun hjj => ?_)
                · refine TL_nil ?_
                  refine T_cond rfl (fun hq => ?_) (fun hq => ?_)
                  · replace hm := condT hq hm
                    refine T_region ?_
                    refine TL_pure rfl rfl rfl rfl (op_assign rfl) ?_
                    refine TL_nil ?_
                    refine T_seq ?_
                    refine T_region ?_
                    refine TL_pure rfl rfl rfl rfl (op_move rfl) ?_
                    refine TL_pure rfl rfl rfl rfl (op_assign rfl) ?_
                    refine TL_nil ?_
                    refine T_keepH [2] [] rfl rfl rfl rfl (by rw [hF]; rfl) ?_
                    refine T_ret ?_
                    obtain rfl := someI hm
                    refine ⟨[_], [], ⟨rfl, trivial⟩, ?_, rfl, rfl, rfl, rfl⟩
                    rfl
                  · replace hm := condF hq hm
                    refine T_skip ?_
                    refine T_seq ?_
                    refine T_region ?_
                    refine TL_pure rfl rfl rfl rfl (op_move rfl) ?_
                    refine TL_pure rfl rfl rfl rfl (op_assign rfl) ?_
                    refine TL_nil ?_
                    refine T_keepH [2] [] rfl rfl rfl rfl (by rw [hF]; rfl) ?_
                    refine T_ret ?_
                    obtain rfl := someI hm
                    refine ⟨[_], [], ⟨rfl, trivial⟩, ?_, rfl, rfl, rfl, rfl⟩
                    rfl
                · refine TL_split 92 rfl rfl rfl (fun hq => ?_) (fun hq => ?_)
                  · refine TL_want rfl rfl ?_
                    refine TL_pure rfl rfl rfl rfl (op_move rfl) ?_
                    refine TL_pure rfl rfl rfl rfl (op_pick_true rfl rfl) ?_
                    refine TL_keepH [8, 94] [] rfl rfl rfl rfl (by rw [hF]; rfl) ?_
                    exact TL_cast _ (by first | (rw [hq, Bool.true_and]; done) | (rw [hq]; rfl)) (hjj () trivial)
                  · refine TL_pass rfl rfl rfl rfl rfl rfl rfl ?_
                    refine TL_pure rfl rfl rfl rfl (op_pick_false rfl rfl) ?_
                    refine TL_keepH [8, 94] [] rfl rfl rfl rfl (by rw [hF]; rfl) ?_
                    exact TL_cast _ (by first | (rw [hq, Bool.false_and]; done) | (rw [hq]; rfl)) (hjj () trivial)
              · replace hm := condF hq hm
                refine TL_pass rfl rfl rfl rfl rfl rfl rfl ?_
                refine TL_pass rfl rfl rfl rfl rfl rfl rfl ?_
                refine TL_pass rfl rfl rfl rfl rfl rfl rfl ?_
                refine TL_pure rfl rfl rfl rfl (op_pick_false rfl rfl) ?_
                refine TL_pure rfl rfl rfl rfl (op_move rfl) ?_
                refine TL_pass rfl rfl rfl rfl rfl rfl rfl ?_
                refine TL_pure rfl rfl rfl rfl (op_pick_false rfl rfl) ?_
                refine TL_nil ?_
                refine T_cond_false rfl ?_
                refine T_skip ?_
                refine T_seq ?_
                refine T_region ?_
                refine TL_pure rfl rfl rfl rfl (op_move rfl) ?_
                refine TL_pure rfl rfl rfl rfl (op_assign rfl) ?_
                refine TL_nil ?_
                refine T_keepH [2] [] rfl rfl rfl rfl (by rw [hF]; rfl) ?_
                refine T_ret ?_
                obtain rfl := someI hm
                refine ⟨[_], [], ⟨rfl, trivial⟩, ?_, rfl, rfl, rfl, rfl⟩
                rfl
            · refine TL_split 84 rfl rfl rfl (fun hq => ?_) (fun hq => ?_)
              · refine TL_want rfl rfl ?_
                refine TL_pure rfl rfl rfl rfl (op_move rfl) ?_
                refine TL_pure rfl rfl rfl rfl (op_pick_true rfl rfl) ?_
                refine TL_keepH [1, 7, 8, 86] [11] rfl rfl rfl rfl (by rw [hF]; rfl) ?_
                exact TL_cast _ (by first | (rw [hq, Bool.true_and]; done) | (rw [hq]; rfl)) (hjj () trivial)
              · refine TL_pass rfl rfl rfl rfl rfl rfl rfl ?_
                refine TL_pure rfl rfl rfl rfl (op_pick_false rfl rfl) ?_
                refine TL_keepH [1, 7, 8, 86] [11] rfl rfl rfl rfl (by rw [hF]; rfl) ?_
                exact TL_cast _ (by first | (rw [hq, Bool.false_and]; done) | (rw [hq]; rfl)) (hjj () trivial)
          · refine TL_split 81 rfl rfl rfl (fun hq => ?_) (fun hq => ?_)
            · refine TL_want rfl rfl ?_
              refine TL_pure rfl rfl rfl rfl (op_move rfl) ?_
              refine TL_pure rfl rfl rfl rfl (op_pick_true rfl rfl) ?_
              refine TL_keepH [1, 5, 7, 8, 83] [11] rfl rfl rfl rfl (by rw [hF]; rfl) ?_
              exact TL_cast _ (by first | (rw [hq, Bool.true_and]; done) | (rw [hq]; rfl)) (hjj () trivial)
            · refine TL_pass rfl rfl rfl rfl rfl rfl rfl ?_
              refine TL_pure rfl rfl rfl rfl (op_pick_false rfl rfl) ?_
              refine TL_keepH [1, 5, 7, 8, 83] [11] rfl rfl rfl rfl (by rw [hF]; rfl) ?_
              exact TL_cast _ (by first | (rw [hq, Bool.false_and]; done) | (rw [hq]; rfl)) (hjj () trivial)
        · replace hm := condF hq hm
          refine T_seq ?_
          refine T_region ?_
          refine TL_pure rfl rfl rfl rfl (op_eql rfl rfl) ?_
          refine TL_pure rfl rfl rfl rfl (op_assign rfl) ?_
          refine TL_nil ?_
          refine T_cond rfl (fun hq => ?_) (fun hq => ?_)
          · replace hm := condT hq hm
            refine T_seq ?_
            refine T_region ?_
            refine TL_pure rfl rfl rfl rfl (op_move rfl) ?_
            refine TL_pure rfl rfl rfl rfl (op_move rfl) ?_
            refine TL_join 2 (fun _ : Unit => ⟨[(1, .ptr 11 0 0), (7, .bool (decide ((p0.Facts.length : Int) = (0 : Int)))), (8, .int .i64 (-1 : Int)), (100, .bool ((decide (p0.Var = (0 : Int))) && (decide (p0.Event = (0 : Int)))))], [(11, .box [.int .i64 p0.Kind, .int .i64 p0.Var, .int .i64 p0.Event, .int .i64 p0.Sum.Const, .sl 1 (List.map a_i64 p0.Sum.Coeffs), .int .i64 p0.Index.Const, .sl 1 (List.map a_i64 p0.Index.Coeffs), .sl 2 (List.map a_Term p0.Facts)])]⟩) (fun _ => True) (fun _ _ => ?_) (fun hjj => ?_)
            · refine TL_pure rfl rfl rfl rfl (op_move rfl) ?_
              refine TL_split 101 rfl rfl rfl (fun hq => ?_) (fun hq => ?_)
              · replace hm := condT hq hm
                refine TL_want rfl rfl ?_
                refine TL_pure rfl rfl rfl rfl (op_fieldAddr fa69_3 rfl rfl) ?_
                refine TL_want rfl rfl ?_
                refine TL_pure rfl rfl rfl rfl (op_load_agg ag67 sz67 rfl rfl rfl) ?_
                refine TL_want rfl rfl ?_
                obtain ⟨r104, hr104, hm⟩ := bindS hm
                refine TL_callF (c_impl_isOver p0.Sum r104 hr104) Try.call102 rfl rfl rfl rfl rfl ?_
                refine TL_pure rfl rfl rfl rfl (op_pick_true rfl rfl) ?_
                refine TL_pure rfl rfl rfl rfl (op_move rfl) ?_
                refine TL_split 106 rfl rfl rfl (fun hq => ?_) (fun hq => ?_)
                · replace hm := condT hq hm
                  refine TL_want rfl rfl ?_
                  refine TL_pure rfl rfl rfl rfl (op_fieldAddr fa69_4 rfl rfl) ?_
                  refine TL_want rfl rfl ?_
                  refine TL_pure rfl rfl rfl rfl (op_load_agg ag67 sz67 rfl rfl rfl) ?_
                  refine TL_want rfl rfl ?_
                  obtain ⟨r109, hr109, hm⟩ := bindS hm
                  refine TL_callF (c_impl_isOver p0.Index r109 hr109) Try.call102 rfl rfl rfl rfl rfl ?_
                  refine TL_pure rfl rfl rfl rfl (op_pick_true rfl rfl) ?_
                  refine TL_pure rfl rfl rfl rfl (op_move rfl) ?_
                  refine TL_join 2 (fun _ : Unit => ⟨[(8, .int .i64 (-1 : Int)), (113, .bool (r109 && (decide ((p0.Facts.length : Int) = (0 : Int)))))], []⟩) (fun _ => True) (fun _ _ => ?_) (fun hjj => ?_)
                  · refine TL_nil ?_
                    refine T_cond rfl (fun hq => ?_) (fun hq => ?_)
                    · replace hm := condT hq hm
                      refine T_region ?_
                      refine TL_pure rfl rfl rfl rfl (op_assign rfl) ?_
                      refine TL_nil ?_
                      refine T_seq ?_
                      refine T_region ?_
                      refine TL_pure rfl rfl rfl rfl (op_move rfl) ?_
                      refine TL_pure rfl rfl rfl rfl (op_assign rfl) ?_
                      refine TL_nil ?_
                      refine T_keepH [2] [] rfl rfl rfl rfl (by rw [hF]; rfl) ?_
                      refine T_ret ?_
                      obtain rfl := someI hm
                      refine ⟨[_], [], ⟨rfl, trivial⟩, ?_, rfl, rfl, rfl, rfl⟩
                      rfl
                    · replace hm := condF hq hm
                      refine T_skip ?_
                      refine T_seq ?_
                      refine T_region ?_
                      refine TL_pure rfl rfl rfl rfl (op_move rfl) ?_
                      refine TL_pure rfl rfl rfl rfl (op_assign rfl) ?_
                      refine TL_nil ?_
                      refine T_keepH [2] [] rfl rfl rfl rfl (by rw [hF]; rfl) ?_
                      refine T_ret ?_
                      obtain rfl := someI hm
                      refine ⟨[_], [], ⟨rfl, trivial⟩, ?_, rfl, rfl, rfl, rfl⟩
                      rfl
                  · refine TL_split 111 rfl rfl rfl (fun hq => ?_) (fun hq => ?_)
                    · refine TL_want rfl rfl ?_
                      refine TL_pure rfl rfl rfl rfl (op_move rfl) ?_
                      refine TL_pure rfl rfl rfl rfl (op_pick_true rfl rfl) ?_
                      refine TL_keepH [8, 113] [] rfl rfl rfl rfl (by rw [hF]; rfl) ?_
                      exact TL_cast _ (by first | (rw [hq, Bool.true_and]; done) | (rw [hq]; rfl)) (hjj () trivial)
                    · refine TL_pass rfl rfl rfl rfl rfl rfl rfl ?_
                      refine TL_pure rfl rfl rfl rfl (op_pick_false rfl rfl) ?_
                      refine TL_keepH [8, 113] [] rfl rfl rfl rfl (by rw [hF]; rfl) ?_
                      exact TL_cast _ (by first | (rw [hq, Bool.false_and]; done) | (rw [hq]; rfl)) (hjj () trivial)
                · replace hm := condF hq hm
                  refine TL_pass rfl rfl rfl rfl rfl rfl rfl ?_
                  refine TL_pass rfl rfl rfl rfl rfl rfl rfl ?_
                  refine TL_pass rfl rfl rfl rfl rfl rfl rfl ?_
                  refine TL_pure rfl rfl rfl rfl (op_pick_false rfl rfl) ?_
                  refine TL_pure rfl rfl rfl rfl (op_move rfl) ?_
                  refine TL_pass rfl rfl rfl rfl rfl rfl rfl ?_
                  refine TL_pure rfl rfl rfl rfl (op_pick_false rfl rfl) ?_
                  refine TL_nil ?_
                  refine T_cond_false rfl ?_
                  refine T_skip ?_
                  refine T_seq ?_
                  refine T_region ?_
                  refine TL_pure rfl rfl rfl rfl (op_move rfl) ?_
                  refine TL_pure rfl rfl rfl rfl (op_assign rfl) ?_
                  refine TL_nil ?_
                  refine T_keepH [2] [] rfl rfl rfl rfl (by rw [hF]; rfl) ?_
                  refine T_ret ?_
                  obtain rfl := someI hm
                  refine ⟨[_], [], ⟨rfl, trivial⟩, ?_, rfl, rfl, rfl, rfl⟩
                  rfl
              · replace hm := condF hq hm
                refine TL_pass rfl rfl rfl rfl rfl rfl rfl ?_
                refine TL_pass rfl rfl rfl rfl rfl rfl rfl ?_
                refine TL_pass rfl rfl rfl rfl rfl rfl rfl ?_
                refine TL_pure rfl rfl rfl rfl (op_pick_false rfl rfl) ?_
                refine TL_pure rfl rfl rfl rfl (op_move rfl) ?_
                refine TL_pass rfl rfl rfl rfl rfl rfl rfl ?_
                refine TL_pass rfl rfl rfl rfl rfl rfl rfl ?_
                refine TL_pass rfl rfl rfl rfl rfl rfl rfl ?_
                refine TL_pure rfl rfl rfl rfl (op_pick_false rfl rfl) ?_
                refine TL_pure rfl rfl rfl rfl (op_move rfl) ?_
                refine TL_pass rfl rfl rfl rfl rfl rfl rfl ?_
                refine TL_pure rfl rfl rfl rfl (op_pick_false rfl rfl) ?_
                refine TL_nil ?_
                refine T_cond_false rfl ?_
                refine T_skip ?_
                refine T_seq ?_
                refine T_region ?_
                refine TL_pure rfl rfl rfl rfl (op_move rfl) ?_
                refine TL_pure rfl rfl rfl rfl (op_assign rfl) ?_
                refine TL_nil ?_
                refine T_keepH [2] [] rfl rfl rfl rfl (by rw [hF]; rfl) ?_
                refine T_ret ?_
                obtain rfl := someI hm
                refine ⟨[_], [], ⟨rfl, trivial⟩, ?_, rfl, rfl, rfl, rfl⟩
                rfl
            · refine TL_split 98 rfl rfl rfl (fun hq => ?_) (fun hq => ?_)
              · refine TL_want rfl rfl ?_
                refine TL_pure rfl rfl rfl rfl (op_move rfl) ?_
                refine TL_pure rfl rfl rfl rfl (op_pick_true rfl rfl) ?_
                refine TL_keepH [1, 7, 8, 100] [11] rfl rfl rfl rfl (by rw [hF]; rfl) ?_
                exact TL_cast _ (by first | (rw [hq, Bool.true_and]; done) | (rw [hq]; rfl)) (hjj () trivial)
              · refine TL_pass rfl rfl rfl rfl rfl rfl rfl ?_
                refine TL_pure rfl rfl rfl rfl (op_pick_false rfl rfl) ?_
                refine TL_keepH [1, 7, 8, 100] [11] rfl rfl rfl rfl (by rw [hF]; rfl) ?_
                exact TL_cast _ (by first | (rw [hq, Bool.false_and]; done) | (rw [hq]; rfl)) (hjj () trivial)
          · replace hm := condF hq hm
            refine T_seq ?_
            refine T_region ?_
            refine TL_pure rfl rfl rfl rfl (op_eql rfl rfl) ?_
            refine TL_pure rfl rfl rfl rfl (op_assign rfl) ?_
            refine TL_nil ?_
            refine T_cond rfl (fun hq => ?_) (fun hq => ?_)
            · replace hm := condT hq hm
              refine T_seq ?_
              refine T_region ?_
              refine TL_pure rfl rfl rfl rfl (op_move rfl) ?_
              refine TL_pure rfl rfl rfl rfl (op_move rfl) ?_
              refine TL_split 117 rfl rfl rfl (fun hq => ?_) (fun hq => ?_)
              · replace hm := condT hq hm
                refine TL_want rfl rfl ?_
                refine TL_pure rfl rfl rfl rfl (op_fieldAddr fa69_2 rfl rfl) ?_
                refine TL_want rfl rfl ?_
                refine TL_pure rfl rfl rfl rfl (op_load_one ag2 rfl rfl) ?_
                refine TL_want rfl rfl ?_
                obtain ⟨r120, hr120, hm⟩ := bindS hm
                refine TL_callF (c_impl_isEvent p0.Event r120 hr120) Try.call130 rfl rfl rfl rfl rfl ?_
                refine TL_pure rfl rfl rfl rfl (op_pick_true rfl rfl) ?_
                refine TL_pure rfl rfl rfl rfl (op_move rfl) ?_
                refine TL_join 2 (fun _ : Unit => ⟨[(6, .bool r20), (7, .bool (decide ((p0.Facts.length : Int) = (0 : Int)))), (8, .int .i64 (-1 : Int)), (124, .bool (r120 && r17))], []⟩) (fun _ => True) (fun _ _ => ?_) (fun hjj => ?_)
                · refine TL_pure rfl rfl rfl rfl (op_move rfl) ?_
                  refine TL_join 2 (fun _ : Unit => ⟨[(7, .bool (decide ((p0.Facts.length : Int) = (0 : Int)))), (8, .int .i64 (-1 : Int)), (127, .bool ((r120 && r17) && r20))], []⟩) (fun _ => True) (fun _ _ => ?_) (fun hjj => ?_)
                  · refine TL_pure rfl rfl rfl rfl (op_move rfl) ?_
                    refine TL_join 2 (fun _ : Unit => ⟨[(8, .int .i64 (-1 : Int)), (130, .bool (((r120 && r17) && r20) && (decide ((p0.Facts.length : Int) = (0 : Int)))))], []⟩) (fun _ => True) (fun _ _ => ?_) (fun hjj => ?_)
                    · refine TL_nil ?_
                      refine T_cond rfl (fun hq => ?_) (fun hq => ?_)
                      · replace hm := condT hq hm
                        refine T_region ?_
                        refine TL_pure rfl rfl rfl rfl (op_assign rfl) ?_
                        refine TL_nil ?_
                        refine T_seq ?_
                        refine T_region ?_
                        refine TL_pure rfl rfl rfl rfl (op_move rfl) ?_
                        refine TL_pure rfl rfl rfl rfl (op_assign rfl) ?_
                        refine TL_nil ?_
                        refine T_keepH [2] [] rfl rfl rfl rfl (by rw [hF]; rfl) ?_
                        refine T_ret ?_
                        obtain rfl := someI hm
                        refine ⟨[_], [], ⟨rfl, trivial⟩, ?_, rfl, rfl, rfl, rfl⟩
                        rfl
                      · replace hm := condF hq hm
                        refine T_skip ?_
                        refine T_seq ?_
                        refine T_region ?_
                        refine TL_pure rfl rfl rfl rfl (op_move rfl) ?_
                        refine TL_pure rfl rfl rfl rfl (op_assign rfl) ?_
                        refine TL_nil ?_
                        refine T_keepH [2] [] rfl rfl rfl rfl (by rw [hF]; rfl) ?_
                        refine T_ret ?_
                        obtain rfl := someI hm
                        refine ⟨[_], [], ⟨rfl, trivial⟩, ?_, rfl, rfl, rfl, rfl⟩
                        rfl
                    · refine TL_split 128 rfl rfl rfl (fun hq => ?_) (fun hq => ?_)
                      · refine TL_want rfl rfl ?_
                        refine TL_pure rfl rfl rfl rfl (op_move rfl) ?_
                        refine TL_pure rfl rfl rfl rfl (op_pick_true rfl rfl) ?_
                        refine TL_keepH [8, 130] [] rfl rfl rfl rfl (by rw [hF]; rfl) ?_
                        exact TL_cast _ (by first | (rw [hq, Bool.true_and]; done) | (rw [hq]; rfl)) (hjj () trivial)
                      · refine TL_pass rfl rfl rfl rfl rfl rfl rfl ?_
                        refine TL_pure rfl rfl rfl rfl (op_pick_false rfl rfl) ?_
                        refine TL_keepH [8, 130] [] rfl rfl rfl rfl (by rw [hF]; rfl) ?_
                        exact TL_cast _ (by first | (rw [hq, Bool.false_and]; done) | (rw [hq]; rfl)) (hjj () trivial)
                  · refine TL_split 125 rfl rfl rfl (fun hq => ?_) (fun hq => ?_)
                    · refine TL_want rfl rfl ?_
                      refine TL_pure rfl rfl rfl rfl (op_move rfl) ?_
                      refine TL_pure rfl rfl rfl rfl (op_pick_true rfl rfl) ?_
                      refine TL_keepH [7, 8, 127] [] rfl rfl rfl rfl (by rw [hF]; rfl) ?_
                      exact TL_cast _ (by first | (rw [hq, Bool.true_and]; done) | (rw [hq]; rfl)) (hjj () trivial)
                    · refine TL_pass rfl rfl rfl rfl rfl rfl rfl ?_
                      refine TL_pure rfl rfl rfl rfl (op_pick_false rfl rfl) ?_
                      refine TL_keepH [7, 8, 127] [] rfl rfl rfl rfl (by rw [hF]; rfl) ?_
                      exact TL_cast _ (by first | (rw [hq, Bool.false_and]; done) | (rw [hq]; rfl)) (hjj () trivial)
                · refine TL_split 122 rfl rfl rfl (fun hq => ?_) (fun hq => ?_)
                  · refine TL_want rfl rfl ?_
                    refine TL_pure rfl rfl rfl rfl (op_move rfl) ?_
                    refine TL_pure rfl rfl rfl rfl (op_pick_true rfl rfl) ?_
                    refine TL_keepH [6, 7, 8, 124] [] rfl rfl rfl rfl (by rw [hF]; rfl) ?_
                    exact TL_cast _ (by first | (rw [hq, Bool.true_and]; done) | (rw [hq]; rfl)) (hjj () trivial)
                  · refine TL_pass rfl rfl rfl rfl rfl rfl rfl ?_
                    refine TL_pure rfl rfl rfl rfl (op_pick_false rfl rfl) ?_
                    refine TL_keepH [6, 7, 8, 124] [] rfl rfl rfl rfl (by rw [hF]; rfl) ?_
                    exact TL_cast _ (by first | (rw [hq, Bool.false_and]; done) | (rw [hq]; rfl)) (hjj () trivial)
              · replace hm := condF hq hm
                refine TL_pass rfl rfl rfl rfl rfl rfl rfl ?_
                refine TL_pass rfl rfl rfl rfl rfl rfl rfl ?_
                refine TL_pass rfl rfl rfl rfl rfl rfl rfl ?_
                refine TL_pure rfl rfl rfl rfl (op_pick_false rfl rfl) ?_
                refine TL_pure rfl rfl rfl rfl (op_move rfl) ?_
                refine TL_pass rfl rfl rfl rfl rfl rfl rfl ?_
                refine TL_pure rfl rfl rfl rfl (op_pick_false rfl rfl) ?_
                refine TL_pure rfl rfl rfl rfl (op_move rfl) ?_
                refine TL_pass rfl rfl rfl rfl rfl rfl rfl ?_
                refine TL_pure rfl rfl rfl rfl (op_pick_false rfl rfl) ?_
                refine TL_pure rfl rfl rfl rfl (op_move rfl) ?_
                refine TL_pass rfl rfl rfl rfl rfl rfl rfl ?_
                refine TL_pure rfl rfl rfl rfl (op_pick_false rfl rfl) ?_
                refine TL_nil ?_
                refine T_cond_false rfl ?_
                refine T_skip ?_
                refine T_seq ?_
                refine T_region ?_
                refine TL_pure rfl rfl rfl rfl (op_move rfl) ?_
                refine TL_pure rfl rfl rfl rfl (op_assign rfl) ?_
                refine TL_nil ?_
                refine T_keepH [2] [] rfl rfl rfl rfl (by rw [hF]; rfl) ?_
                refine T_ret ?_
                obtain rfl := someI hm
                refine ⟨[_], [], ⟨rfl, trivial⟩, ?_, rfl, rfl, rfl, rfl⟩
                rfl
            · replace hm := condF hq hm
              refine T_seq ?_
              refine T_region ?_
              refine TL_pure rfl rfl rfl rfl (op_eql rfl rfl) ?_
              refine TL_pure rfl rfl rfl rfl (op_assign rfl) ?_
              refine TL_nil ?_
              refine T_cond rfl (fun hq => ?_) (fun hq => ?_)
              · replace hm := condT hq hm
                refine T_seq ?_
                refine T_region ?_
                refine TL_pure rfl rfl rfl rfl (op_move rfl) ?_
                refine TL_pure rfl rfl rfl rfl (op_move rfl) ?_
                refine TL_join 2 (fun _ : Unit => ⟨[(1, .ptr 11 0 0), (6, .bool r20), (7, .bool (decide ((p0.Facts.length : Int) = (0 : Int)))), (8, .int .i64 (-1 : Int)), (136, .bool ((decide (p0.Var = (0 : Int))) && (decide (p0.Event = (0 : Int)))))], [(11, .box [.int .i64 p0.Kind, .int .i64 p0.Var, .int .i64 p0.Event, .int .i64 p0.Sum.Const, .sl 1 (List.map a_i64 p0.Sum.Coeffs), .int .i64 p0.Index.Const, .sl 1 (List.map a_i64 p0.Index.Coeffs), .sl 2 (List.map a_Term p0.Facts)])]⟩) (fun _ => True) (fun _ _ => ?_) (fun hjj => ?_)
                · refine TL_pure rfl rfl rfl rfl (op_move rfl) ?_
                  refine TL_split 137 rfl rfl rfl (fun hq => ?_) (fun hq => ?_)
                  · replace hm := condT hq hm
                    refine TL_want rfl rfl ?_
                    refine TL_pure rfl rfl rfl rfl (op_fieldAddr fa69_3 rfl rfl) ?_
                    refine TL_want rfl rfl ?_
                    refine TL_pure rfl rfl rfl rfl (op_load_agg ag67 sz67 rfl rfl rfl) ?_
                    refine TL_want rfl rfl ?_
                    obtain ⟨r140, hr140, hm⟩ := bindS hm
                    refine TL_callF (c_impl_isOver p0.Sum r140 hr140) Try.call102 rfl rfl rfl rfl rfl ?_
                    refine TL_pure rfl rfl rfl rfl (op_pick_true rfl rfl) ?_
                    refine TL_pure rfl rfl rfl rfl (op_move rfl) ?_
                    refine TL_join 2 (fun _ : Unit => ⟨[(7, .bool (decide ((p0.Facts.length : Int) = (0 : Int)))), (8, .int .i64 (-1 : Int)), (144, .bool (r140 && r20))], []⟩) (fun _ => True) (fun _ _ => ?_) (fun hjj => ?_)
                    · refine TL_pure rfl rfl rfl rfl (op_move rfl) ?_
                      refine TL_join 2 (fun _ : Unit => ⟨[(8, .int .i64 (-1 : Int)), (147, .bool ((r140 && r20) && (decide ((p0.Facts.length : Int) = (0 : Int)))))], []⟩) (fun _ => True) (fun _ _ => ?_) (fun hjj => ?_)
                      · refine TL_nil ?_
                        refine T_cond rfl (fun hq => ?_) (fun hq => ?_)
                        · replace hm := condT hq hm
                          refine T_region ?_
                          refine TL_pure rfl rfl rfl rfl (op_assign rfl) ?_
                          refine TL_nil ?_
                          refine T_seq ?_
                          refine T_region ?_
                          refine TL_pure rfl rfl rfl rfl (op_move rfl) ?_
                          refine TL_pure rfl rfl rfl rfl (op_assign rfl) ?_
                          refine TL_nil ?_
                          refine T_keepH [2] [] rfl rfl rfl rfl (by rw [hF]; rfl) ?_
                          refine T_ret ?_
                          obtain rfl := someI hm
                          refine ⟨[_], [], ⟨rfl, trivial⟩, ?_, rfl, rfl, rfl, rfl⟩
                          rfl
                        · replace hm := condF hq hm
                          refine T_skip ?_
                          refine T_seq ?_
                          refine T_region ?_
                          refine TL_pure rfl rfl rfl rfl (op_move rfl) ?_
                          refine TL_pure rfl rfl rfl rfl (op_assign rfl) ?_
                          refine TL_nil ?_
                          refine T_keepH [2] [] rfl rfl rfl rfl (by rw [hF]; rfl) ?_
                          refine T_ret ?_
                          obtain rfl := someI hm
                          refine ⟨[_], [], ⟨rfl, trivial⟩, ?_, rfl, rfl, rfl, rfl⟩
                          rfl
                      · refine TL_split 145 rfl rfl rfl (fun hq => ?_) (fun hq => ?_)
                        · refine TL_want rfl rfl ?_
                          refine TL_pure rfl rfl rfl rfl (op_move rfl) ?_
                          refine TL_pure rfl rfl rfl rfl (op_pick_true rfl rfl) ?_
                          refine TL_keepH [8, 147] [] rfl rfl rfl rfl (by rw [hF]; rfl) ?_
                          exact TL_cast _ (by first | (rw [hq, Bool.true_and]; done) | (rw [hq]; rfl)) (hjj () trivial)
                        · refine TL_pass rfl rfl rfl rfl rfl rfl rfl ?_
                          refine TL_pure rfl rfl rfl rfl (op_pick_false rfl rfl) ?_
                          refine TL_keepH [8, 147] [] rfl rfl rfl rfl (by rw [hF]; rfl) ?_
                          exact TL_cast _ (by first | (rw [hq, Bool.false_and]; done) | (rw [hq]; rfl)) (hjj () trivial)
                    · refine TL_split 142 rfl rfl rfl (fun hq => ?_) (fun hq => ?_)
                      · refine TL_want rfl rfl ?_
                        refine TL_pure rfl rfl rfl rfl (op_move rfl) ?_
                        refine TL_pure rfl rfl rfl rfl (op_pick_true rfl rfl) ?_
                        refine TL_keepH [7, 8, 144] [] rfl rfl rfl rfl (by rw [hF]; rfl) ?_
                        exact TL_cast _ (by first | (rw [hq, Bool.true_and]; done) | (rw [hq]; rfl)) (hjj () trivial)
                      · refine TL_pass rfl rfl rfl rfl rfl rfl rfl ?_
                        refine TL_pure rfl rfl rfl rfl (op_pick_false rfl rfl) ?_
                        refine TL_keepH [7, 8, 144] [] rfl rfl rfl rfl (by rw [hF]; rfl) ?_
                        exact TL_cast _ (by first | (rw [hq, Bool.false_and]; done) | (rw [hq]; rfl)) (hjj () trivial)
                  · replace hm := condF hq hm
                    refine TL_pass rfl rfl rfl rfl rfl rfl rfl ?_
                    refine TL_pass rfl rfl rfl rfl rfl rfl rfl ?_
                    refine TL_pass rfl rfl rfl rfl rfl rfl rfl ?_
                    refine TL_pure rfl rfl rfl rfl (op_pick_false rfl rfl) ?_
                    refine TL_pure rfl rfl rfl rfl (op_move rfl) ?_
                    refine TL_pass rfl rfl rfl rfl rfl rfl rfl ?_
                    refine TL_pure rfl rfl rfl rfl (op_pick_false rfl rfl) ?_
                    refine TL_pure rfl rfl rfl rfl (op_move rfl) ?_
                    refine TL_pass rfl rfl rfl rfl rfl rfl rfl ?_
                    refine TL_pure rfl rfl rfl rfl (op_pick_false rfl rfl) ?_
                    refine TL_nil ?_
                    refine T_cond_false rfl ?_
                    refine T_skip ?_
                    refine T_seq ?_
                    refine T_region ?_
                    refine TL_pure rfl rfl rfl rfl (op_move rfl) ?_
                    refine TL_pure rfl rfl rfl rfl (op_assign rfl) ?_
                    refine TL_nil ?_
                    refine T_keepH [2] [] rfl rfl rfl rfl (by rw [hF]; rfl) ?_
                    refine T_ret ?_
                    obtain rfl := someI hm
                    refine ⟨[_], [], ⟨rfl, trivial⟩, ?_, rfl, rfl, rfl, rfl⟩
                    rfl
                · refine TL_split 134 rfl rfl rfl (fun hq => ?_) (fun hq => ?_)
                  · refine TL_want rfl rfl ?_
                    refine TL_pure rfl rfl rfl rfl (op_move rfl) ?_
                    refine TL_pure rfl rfl rfl rfl (op_pick_true rfl rfl) ?_
                    refine TL_keepH [1, 6, 7, 8, 136] [11] rfl rfl rfl rfl (by rw [hF]; rfl) ?_
                    exact TL_cast _ (by first | (rw [hq, Bool.true_and]; done) | (rw [hq]; rfl)) (hjj () trivial)
                  · refine TL_pass rfl rfl rfl rfl rfl rfl rfl ?_
                    refine TL_pure rfl rfl rfl rfl (op_pick_false rfl rfl) ?_
                    refine TL_keepH [1, 6, 7, 8, 136] [11] rfl rfl rfl rfl (by rw [hF]; rfl) ?_
                    exact TL_cast _ (by first | (rw [hq, Bool.false_and]; done) | (rw [hq]; rfl)) (hjj () trivial)
              · replace hm := condF hq hm
                refine T_seq ?_
                refine T_region ?_
                refine TL_pure rfl rfl rfl rfl (op_eql rfl rfl) ?_
                refine TL_pure rfl rfl rfl rfl (op_assign rfl) ?_
                refine TL_nil ?_
                refine T_cond rfl (fun hq => ?_) (fun hq => ?_)
                · replace hm := condT hq hm
                  refine T_seq ?_
                  refine T_region ?_
                  refine TL_pure rfl rfl rfl rfl (op_move rfl) ?_
                  refine TL_pure rfl rfl rfl rfl (op_move rfl) ?_
                  refine TL_join 2 (fun _ : Unit => ⟨[(1, .ptr 11 0 0), (6, .bool r20), (7, .bool (decide ((p0.Facts.length : Int) = (0 : Int)))), (8, .int .i64 (-1 : Int)), (153, .bool ((decide (p0.Var = (0 : Int))) && (decide (p0.Event = (0 : Int)))))], [(11, .box [.int .i64 p0.Kind, .int .i64 p0.Var, .int .i64 p0.Event, .int .i64 p0.Sum.Const, .sl 1 (List.map a_i64 p0.Sum.Coeffs), .int .i64 p0.Index.Const, .sl 1 (List.map a_i64 p0.Index.Coeffs), .sl 2 (List.map a_Term p0.Facts)])]⟩) (fun _ => True) (fun _ _ => ?_) (fun hjj => ?_)
                  · refine TL_pure rfl rfl rfl rfl (op_move rfl) ?_
                    refine TL_split 154 rfl rfl rfl (fun hq => ?_) (fun hq => ?_)
                    · replace hm := condT hq hm
                      refine TL_want rfl rfl ?_
                      refine TL_pure rfl rfl rfl rfl (op_fieldAddr fa69_3 rfl rfl) ?_
                      refine TL_want rfl rfl ?_
                      refine TL_pure rfl rfl rfl rfl (op_load_agg ag67 sz67 rfl rfl rfl) ?_
                      refine TL_want rfl rfl ?_
                      obtain ⟨r157, hr157, hm⟩ := bindS hm
                      refine TL_callF (c_impl_isOver p0.Sum r157 hr157) Try.call102 rfl rfl rfl rfl rfl ?_
                      refine TL_pure rfl rfl rfl rfl (op_pick_true rfl rfl) ?_
                      refine TL_pure rfl rfl rfl rfl (op_move rfl) ?_
                      refine TL_join 2 (fun _ : Unit => ⟨[(7, .bool (decide ((p0.Facts.length : Int) = (0 : Int)))), (8, .int .i64 (-1 : Int)), (161, .bool (r157 && r20))], []⟩) (fun _ => True) (fun _ _ => ?_) (fun hjj => ?_)
                      · refine TL_pure rfl rfl rfl rfl (op_move rfl) ?_
                        refine TL_join 2 (fun _ : Unit => ⟨[(8, .int .i64 (-1 : Int)), (164, .bool ((r157 && r20) && (decide ((p0.Facts.length : Int) = (0 : Int)))))], []⟩) (fun _ => True) (fun _ _ => ?_) (fun hjj => ?_)
                        · refine TL_nil ?_
                          refine T_cond rfl (fun hq => ?_) (fun hq => ?_)
                          · replace hm := condT hq hm
                            refine T_region ?_
                            refine TL_pure rfl rfl rfl rfl (op_assign rfl) ?_
                            refine TL_nil ?_
                            refine T_seq ?_
                            refine T_region ?_
                            refine TL_pure rfl rfl rfl rfl (op_move rfl) ?_
                            refine TL_pure rfl rfl rfl rfl (op_assign rfl) ?_
                            refine TL_nil ?_
                            refine T_keepH [2] [] rfl rfl rfl rfl (by rw [hF]; rfl) ?_
                            refine T_ret ?_
                            obtain rfl := someI hm
                            refine ⟨[_], [], ⟨rfl, trivial⟩, ?_, rfl, rfl, rfl, rfl⟩
                            rfl
                          · replace hm := condF hq hm
                            refine T_skip ?_
                            refine T_seq ?_
                            refine T_region ?_
                            refine TL_pure rfl rfl rfl rfl (op_move rfl) ?_
                            refine TL_pure rfl rfl rfl rfl (op_assign rfl) ?_
                            refine TL_nil ?_
                            refine T_keepH [2] [] rfl rfl rfl rfl (by rw [hF]; rfl) ?_
                            refine T_ret ?_
                            obtain rfl := someI hm
                            refine ⟨[_], [], ⟨rfl, trivial⟩, ?_, rfl, rfl, rfl, rfl⟩
                            rfl
                        · refine TL_split 162 rfl rfl rfl (fun hq => ?_) (fun hq => ?_)
                          · refine TL_want rfl rfl ?_
                            refine TL_pure rfl rfl rfl rfl (op_move rfl) ?_
                            refine TL_pure rfl rfl rfl rfl (op_pick_true rfl rfl) ?_
                            refine TL_keepH [8, 164] [] rfl rfl rfl rfl (by rw [hF]; rfl) ?_
                            exact TL_cast _ (by first | (rw [hq, Bool.true_and]; done) | (rw [hq]; rfl)) (hjj () trivial)
                          · refine TL_pass rfl rfl rfl rfl rfl rfl rfl ?_
                            refine TL_pure rfl rfl rfl rfl (op_pick_false rfl rfl) ?_
                            refine TL_keepH [8, 164] [] rfl rfl rfl rfl (by rw [hF]; rfl) ?_
                            exact TL_cast _ (by first | (rw [hq, Bool.false_and]; done) | (rw [hq]; rfl)) (hjj () trivial)
                      · refine TL_split 159 rfl rfl rfl (fun hq => ?_) (fun hq => ?_)
                        · refine TL_want rfl rfl ?_
                          refine TL_pure rfl rfl rfl rfl (op_move rfl) ?_
                          refine TL_pure rfl rfl rfl rfl (op_pick_true rfl rfl) ?_
                          refine TL_keepH [7, 8, 161] [] rfl rfl rfl rfl (by rw [hF]; rfl) ?_
                          exact TL_cast _ (by first | (rw [hq, Bool.true_and]; done) | (rw [hq]; rfl)) (hjj () trivial)
                        · refine TL_pass rfl rfl rfl rfl rfl rfl rfl ?_
                          refine TL_pure rfl rfl rfl rfl (op_pick_false rfl rfl) ?_
                          refine TL_keepH [7, 8, 161] [] rfl rfl rfl rfl (by rw [hF]; rfl) ?_
                          exact TL_cast _ (by first | (rw [hq, Bool.false_and]; done) | (rw [hq]; rfl)) (hjj () trivial)
                    · replace hm := condF hq hm
                      refine TL_pass rfl rfl rfl rfl rfl rfl rfl ?_
                      refine TL_pass rfl rfl rfl rfl rfl rfl rfl ?_
                      refine TL_pass rfl rfl rfl rfl rfl rfl rfl ?_
                      refine TL_pure rfl rfl rfl rfl (op_pick_false rfl rfl) ?_
                      refine TL_pure rfl rfl rfl rfl (op_move rfl) ?_
                      refine TL_pass rfl rfl rfl rfl rfl rfl rfl ?_
                      refine TL_pure rfl rfl rfl rfl (op_pick_false rfl rfl) ?_
                      refine TL_pure rfl rfl rfl rfl (op_move rfl) ?_
                      refine TL_pass rfl rfl rfl rfl rfl rfl rfl ?_
                      refine TL_pure rfl rfl rfl rfl (op_pick_false rfl rfl) ?_
                      refine TL_nil ?_
                      refine T_cond_false rfl ?_
                      refine T_skip ?_
                      refine T_seq ?_
                      refine T_region ?_
                      refine TL_pure rfl rfl rfl rfl (op_move rfl) ?_
                      refine TL_pure rfl rfl rfl rfl (op_assign rfl) ?_
                      refine TL_nil ?_
                      refine T_keepH [2] [] rfl rfl rfl rfl (by rw [hF]; rfl) ?_
                      refine T_ret ?_
                      obtain rfl := someI hm
                      refine ⟨[_], [], ⟨rfl, trivial⟩, ?_, rfl, rfl, rfl, rfl⟩
                      rfl
                  · refine TL_split 151 rfl rfl rfl (fun hq => ?_) (fun hq => ?_)
                    · refine TL_want rfl rfl ?_
                      refine TL_pure rfl rfl rfl rfl (op_move rfl) ?_
                      refine TL_pure rfl rfl rfl rfl (op_pick_true rfl rfl) ?_
                      refine TL_keepH [1, 6, 7, 8, 153] [11] rfl rfl rfl rfl (by rw [hF]; rfl) ?_
                      exact TL_cast _ (by first | (rw [hq, Bool.true_and]; done) | (rw [hq]; rfl)) (hjj () trivial)
                    · refine TL_pass rfl rfl rfl rfl rfl rfl rfl ?_
                      refine TL_pure rfl rfl rfl rfl (op_pick_false rfl rfl) ?_
                      refine TL_keepH [1, 6, 7, 8, 153] [11] rfl rfl rfl rfl (by rw [hF]; rfl) ?_
                      exact TL_cast _ (by first | (rw [hq, Bool.false_and]; done) | (rw [hq]; rfl)) (hjj () trivial)
                · replace hm := condF hq hm
                  refine T_seq ?_
                  refine T_region ?_
                  refine TL_pure rfl rfl rfl rfl (op_eql rfl rfl) ?_
                  refine TL_pure rfl rfl rfl rfl (op_assign rfl) ?_
                  refine TL_nil ?_
                  refine T_cond rfl (fun hq => ?_) (fun hq => ?_)
                  · replace hm := condT hq hm
                    refine T_seq ?_
                    refine T_region ?_
                    refine TL_pure rfl rfl rfl rfl (op_move rfl) ?_
                    refine TL_pure rfl rfl rfl rfl (op_move rfl) ?_
                    refine TL_join 2 (fun _ : Unit => ⟨[(1, .ptr 11 0 0), (6, .bool r20), (8, .int .i64 (-1 : Int)), (170, .bool ((decide (p0.Var = (0 : Int))) && (decide (p0.Event = (0 : Int)))))], [(11, .box [.int .i64 p0.Kind, .int .i64 p0.Var, .int .i64 p0.Event, .int .i64 p0.Sum.Const, .sl 1 (List.map a_i64 p0.Sum.Coeffs), .int .i64 p0.Index.Const, .sl 1 (List.map a_i64 p0.Index.Coeffs), .sl 2 (List.map a_Term p0.Facts)])]⟩) (fun _ => True) (fun _ _ => ?_) (fun hjj => ?_)
                    · refine TL_pure rfl rfl rfl rfl (op_move rfl) ?_
                      refine TL_split 171 rfl rfl rfl (fun hq => ?_) (fun hq => ?_)
                      · replace hm := condT hq hm
                        refine TL_want rfl rfl ?_
                        refine TL_pure rfl rfl rfl rfl (op_fieldAddr fa69_3 rfl rfl) ?_
                        refine TL_want rfl rfl ?_
                        refine TL_pure rfl rfl rfl rfl (op_load_agg ag67 sz67 rfl rfl rfl) ?_
                        refine TL_want rfl rfl ?_
                        obtain ⟨r174, hr174, hm⟩ := bindS hm
                        refine TL_callF (c_impl_isOver p0.Sum r174 hr174) Try.call102 rfl rfl rfl rfl rfl ?_
                        refine TL_pure rfl rfl rfl rfl (op_pick_true rfl rfl) ?_
                        refine TL_pure rfl rfl rfl rfl (op_move rfl) ?_
                        refine TL_join 2 (fun _ : Unit => ⟨[(1, .ptr 11 0 0), (8, .int .i64 (-1 : Int)), (178, .bool (r174 && r20))], [(11, .box [.int .i64 p0.Kind, .int .i64 p0.Var, .int .i64 p0.Event, .int .i64 p0.Sum.Const, .sl 1 (List.map a_i64 p0.Sum.Coeffs), .int .i64 p0.Index.Const, .sl 1 (List.map a_i64 p0.Index.Coeffs), .sl 2 (List.map a_Term p0.Facts)])]⟩) (fun _ => True) (fun _ _ => ?_) (fun hjj => ?_)
                        · refine TL_pure rfl rfl rfl rfl (op_move rfl) ?_
                          refine TL_split 179 rfl rfl rfl (fun hq => ?_) (fun hq => ?_)
                          · replace hm := condT hq hm
                            refine TL_want rfl rfl ?_
                            refine TL_pure rfl rfl rfl rfl (op_fieldAddr fa69_5 rfl rfl) ?_
                            refine TL_want rfl rfl ?_
                            refine TL_pure rfl rfl rfl rfl (op_load_one ag30 rfl rfl) ?_
                            refine TL_want rfl rfl ?_
                            obtain ⟨r182, hr182, hm⟩ := bindS hm
                            refine TL_callF (c_impl_areOver p0.Facts (6 : Int) r182 hr182) Try.call82 rfl rfl rfl rfl rfl ?_
                            refine TL_pure rfl rfl rfl rfl (op_pick_true rfl rfl) ?_
                            refine TL_nil ?_
                            refine T_cond rfl (fun hq => ?_) (fun hq => ?_)
                            · replace hm := condT hq hm
                              refine T_region ?_
                              refine TL_pure rfl rfl rfl rfl (op_assign rfl) ?_
                              refine TL_nil ?_
                              refine T_seq ?_
                              refine T_region ?_
                              refine TL_pure rfl rfl rfl rfl (op_move rfl) ?_
                              refine TL_pure rfl rfl rfl rfl (op_assign rfl) ?_
                              refine TL_nil ?_
                              refine T_keepH [2] [] rfl rfl rfl rfl (by rw [hF]; rfl) ?_
                              refine T_ret ?_
                              obtain rfl := someI hm
                              refine ⟨[_], [], ⟨rfl, trivial⟩, ?_, rfl, rfl, rfl, rfl⟩
                              rfl
                            · replace hm := condF hq hm
                              refine T_skip ?_
                              refine T_seq ?_
                              refine T_region ?_
                              refine TL_pure rfl rfl rfl rfl (op_move rfl) ?_
                              refine TL_pure rfl rfl rfl rfl (op_assign rfl) ?_
                              refine TL_nil ?_
                              refine T_keepH [2] [] rfl rfl rfl rfl (by rw [hF]; rfl) ?_
                              refine T_ret ?_
                              obtain rfl := someI hm
                              refine ⟨[_], [], ⟨rfl, trivial⟩, ?_, rfl, rfl, rfl, rfl⟩
                              rfl
                          · replace hm := condF hq hm
                            refine TL_pass rfl rfl rfl rfl rfl rfl rfl ?_
                            refine TL_pass rfl rfl rfl rfl rfl rfl rfl ?_
                            refine TL_pass rfl rfl rfl rfl rfl rfl rfl ?_
                            refine TL_pure rfl rfl rfl rfl (op_pick_false rfl rfl) ?_
                            refine TL_nil ?_
                            refine T_cond_false rfl ?_
                            refine T_skip ?_
                            refine T_seq ?_
                            refine T_region ?_
                            refine TL_pure rfl rfl rfl rfl (op_move rfl) ?_
                            refine TL_pure rfl rfl rfl rfl (op_assign rfl) ?_
                            refine TL_nil ?_
                            refine T_keepH [2] [] rfl rfl rfl rfl (by rw [hF]; rfl) ?_
                            refine T_ret ?_
                            obtain rfl := someI hm
                            refine ⟨[_], [], ⟨rfl, trivial⟩, ?_, rfl, rfl, rfl, rfl⟩
                            rfl
                        · refine TL_split 176 rfl rfl rfl (fun hq => ?_) (fun hq => ?_)
                          · refine TL_want rfl rfl ?_
                            refine TL_pure rfl rfl rfl rfl (op_move rfl) ?_
                            refine TL_pure rfl rfl rfl rfl (op_pick_true rfl rfl) ?_
                            refine TL_keepH [1, 8, 178] [11] rfl rfl rfl rfl (by rw [hF]; rfl) ?_
                            exact TL_cast _ (by first | (rw [hq, Bool.true_and]; done) | (rw [hq]; rfl)) (hjj () trivial)
                          · refine TL_pass rfl rfl rfl rfl rfl rfl rfl ?_
                            refine TL_pure rfl rfl rfl rfl (op_pick_false rfl rfl) ?_
                            refine TL_keepH [1, 8, 178] [11] rfl rfl rfl rfl (by rw [hF]; rfl) ?_
                            exact TL_cast _ (by first | (rw [hq, Bool.false_and]; done) | (rw [hq]; rfl)) (hjj () trivial)
                      · replace hm := condF hq hm
                        refine TL_pass rfl rfl rfl rfl rfl rfl rfl ?_
                        refine TL_pass rfl rfl rfl rfl rfl rfl rfl ?_
                        refine TL_pass rfl rfl rfl rfl rfl rfl rfl ?_
                        refine TL_pure rfl rfl rfl rfl (op_pick_false rfl rfl) ?_
                        refine TL_pure rfl rfl rfl rfl (op_move rfl) ?_
                        refine TL_pass rfl rfl rfl rfl rfl rfl rfl ?_
                        refine TL_pure rfl rfl rfl rfl (op_pick_false rfl rfl) ?_
                        refine TL_pure rfl rfl rfl rfl (op_move rfl) ?_
                        refine TL_pass rfl rfl rfl rfl rfl rfl rfl ?_
                        refine TL_pass rfl rfl rfl rfl rfl rfl rfl ?_
                        refine TL_pass rfl rfl rfl rfl rfl rfl rfl ?_
                        refine TL_pure rfl rfl rfl rfl (op_pick_false rfl rfl) ?_
                        refine TL_nil ?_
                        refine T_cond_false rfl ?_
                        refine T_skip ?_
                        refine T_seq ?_
                        refine T_region ?_
                        refine TL_pure rfl rfl rfl rfl (op_move rfl) ?_
                        refine TL_pure rfl rfl rfl rfl (op_assign rfl) ?_
                        refine TL_nil ?_
                        refine T_keepH [2] [] rfl rfl rfl rfl (by rw [hF]; rfl) ?_
                        refine T_ret ?_
                        obtain rfl := someI hm
                        refine ⟨[_], [], ⟨rfl, trivial⟩, ?_, rfl, rfl, rfl, rfl⟩
                        rfl
                    · refine TL_split 168 rfl rfl rfl (fun hq => ?_) (fun hq => ?_)
                      · refine TL_want rfl rfl ?_
                        refine TL_pure rfl rfl rfl rfl (op_move rfl) ?_
                        refine TL_pure rfl rfl rfl rfl (op_pick_true rfl rfl) ?_
                        refine TL_keepH [1, 6, 8, 170] [11] rfl rfl rfl rfl (by rw [hF]; rfl) ?_
                        exact TL_cast _ (by first | (rw [hq, Bool.true_and]; done) | (rw [hq]; rfl)) (hjj () trivial)
                      · refine TL_pass rfl rfl rfl rfl rfl rfl rfl ?_
                        refine TL_pure rfl rfl rfl rfl (op_pick_false rfl rfl) ?_
                        refine TL_keepH [1, 6, 8, 170] [11] rfl rfl rfl rfl (by rw [hF]; rfl) ?_
                        exact TL_cast _ (by first | (rw [hq, Bool.false_and]; done) | (rw [hq]; rfl)) (hjj () trivial)
                  · replace hm := condF hq hm
                    refine T_skip ?_
                    refine T_seq ?_
                    refine T_region ?_
                    refine TL_pure rfl rfl rfl rfl (op_move rfl) ?_
                    refine TL_pure rfl rfl rfl rfl (op_assign rfl) ?_
                    refine TL_nil ?_
                    refine T_keepH [2] [] rfl rfl rfl rfl (by rw [hF]; rfl) ?_
                    refine T_ret ?_
                    obtain rfl := someI hm
                    refine ⟨[_], [], ⟨rfl, trivial⟩, ?_, rfl, rfl, rfl, rfl⟩
                    rfl
theorem c_impl_treeAt_F (rec_impl_treeAt : (List Stmt) → Int → Option (Ptree × Int × Bool)) (hrec_impl_treeAt : ∀ (p0 : List Stmt) (p1 : Int) (out : Ptree × Int × Bool), rec_impl_treeAt p0 p1 = some out → ACall Try.prog 97 [.sl 8 (List.map a_Stmt p0), .int .i64 p1] [] (.tup [a_Ptree out.1, .int .i64 out.2.1, .bool out.2.2]) []) (p0 : List Stmt) (p1 : Int) (out : Ptree × Int × Bool) (hm : m_impl_treeAt_F rec_impl_treeAt p0 p1 = some out) : ACall Try.prog 97 [.sl 8 (List.map a_Stmt p0), .int .i64 p1] [] (.tup [a_Ptree out.1, .int .i64 out.2.1, .bool out.2.2]) [] := by
  refine ACall.intro Try.func97 rfl Try.ntmps97 rfl (fun F hF => ?_)
  unfold m_impl_treeAt_F at hm
  refine T_seq ?_
  refine T_region ?_
  refine TL_pure rfl rfl rfl rfl (op_assign rfl) ?_
  refine TL_pure rfl rfl rfl rfl (op_assign rfl) ?_
  refine TL_pure rfl rfl rfl rfl (op_assign rfl) ?_
  refine TL_nil ?_
  refine T_seq ?_
  refine T_seq ?_
  refine T_region ?_
  refine TL_pure rfl rfl rfl rfl (op_move rfl) ?_
  refine TL_pure rfl rfl rfl rfl (op_move rfl) ?_
  refine TL_pure rfl rfl rfl rfl (op_lenT Try.underlying31 rfl (List.length_map _)) ?_
  refine TL_fact (fun _ _ _ hr => RelP.slLen (i := 13) rfl hr) (fun hlen14 => ?_)
  rw [List.length_map] at hlen14
  refine TL_pure rfl rfl rfl rfl (op_geq rfl rfl) ?_
  refine TL_nil ?_
  refine T_cond rfl (fun hq => ?_) (fun hq => ?_)
  · replace hm := condT hq hm
    refine T_seq ?_
    refine T_region ?_
    refine TL_pure rfl rfl rfl rfl (op_assign rfl) ?_
    refine TL_pure rfl rfl rfl rfl (op_assign rfl) ?_
    refine TL_pure rfl rfl rfl rfl (op_assign rfl) ?_
    refine TL_nil ?_
    refine T_trAt 4 (x' := a_Ptree (.nil : Ptree)) rfl (TrR_nil) rfl ?_
    refine T_keepH [4, 5, 6] [] rfl rfl rfl rfl (by rw [hF]; rfl) ?_
    refine T_ret ?_
    obtain rfl := someI hm
    refine ⟨[_, _, _], [], ⟨rfl, rfl, rfl, trivial⟩, ?_, rfl, rfl, rfl, rfl⟩
    rfl
  · replace hm := condF hq hm
    refine T_skip ?_
    refine T_seq ?_
    refine T_region ?_
    refine TL_pure rfl rfl rfl rfl (op_move rfl) ?_
    refine TL_pure rfl rfl rfl rfl (op_move rfl) ?_
    obtain ⟨x18, hx18, hm⟩ := bindS hm
    refine TL_pure rfl rfl rfl rfl (op_indexT el31 rfl rfl hx18 rfl) ?_
    refine TL_pure rfl rfl rfl rfl (op_load_agg ag69 sz69 rfl rfl rfl) ?_
    obtain ⟨r20, hr20, hm⟩ := bindS hm
    refine TL_callF (c_impl_kidsOf x18 r20 hr20) Try.call117 rfl rfl rfl rfl rfl ?_
    refine TL_pure rfl rfl rfl rfl (op_assign rfl) ?_
    refine TL_nil ?_
    refine T_seq ?_
    refine T_seq ?_
    refine T_region ?_
    refine TL_pure rfl rfl rfl rfl (op_move rfl) ?_
    refine TL_pure rfl rfl rfl rfl (op_lss rfl rfl) ?_
    refine TL_nil ?_
    refine T_cond rfl (fun hq => ?_) (fun hq => ?_)
    · replace hm := condT hq hm
      refine T_seq ?_
      refine T_region ?_
      refine TL_pure rfl rfl rfl rfl (op_assign rfl) ?_
      refine TL_pure rfl rfl rfl rfl (op_assign rfl) ?_
      refine TL_pure rfl rfl rfl rfl (op_assign rfl) ?_
      refine TL_nil ?_
      refine T_trAt 4 (x' := a_Ptree (.nil : Ptree)) rfl (TrR_nil) rfl ?_
      refine T_keepH [4, 5, 6] [] rfl rfl rfl rfl (by rw [hF]; rfl) ?_
      refine T_ret ?_
      obtain rfl := someI hm
      refine ⟨[_, _, _], [], ⟨rfl, rfl, rfl, trivial⟩, ?_, rfl, rfl, rfl, rfl⟩
      rfl
    · replace hm := condF hq hm
      refine T_skip ?_
      refine T_seq ?_
      refine T_region ?_
      refine TL_pure rfl rfl rfl rfl (op_move rfl) ?_
      refine TL_pure rfl rfl rfl rfl (op_move rfl) ?_
      refine TL_pure rfl rfl rfl rfl (op_indexT el31 rfl rfl hx18 rfl) ?_
      refine TL_pure rfl rfl rfl rfl (op_load_agg ag69 sz69 rfl rfl rfl) ?_
      refine TL_pure rfl rfl rfl rfl (op_move rfl) ?_
      refine TL_pure rfl rfl rfl rfl (op_buildP pl94 z94 rfl rfl rfl rfl rfl) ?_
      refine TL_box 11 rfl rfl rfl rfl rfl rfl rfl ?_
      refine TL_pure rfl rfl rfl rfl (op_assign rfl) ?_
      refine TL_nil ?_
      refine T_seq ?_
      refine T_region ?_
      refine TL_pure rfl rfl rfl rfl (op_move rfl) ?_
      refine TL_pure rfl rfl rfl rfl (op_addW rfl rfl) ?_
      refine TL_pure rfl rfl rfl rfl (op_assign rfl) ?_
      refine TL_nil ?_
      refine T_seq ?_
      refine T_block ?_
      refine T_ownNilBox 11 9 16 ⟨false, false⟩ 87 rfl rfl rfl (sz := 1) rfl rfl rfl rfl ?_
      refine T_keepH [0, 1, 7, 8] [11, 16] rfl rfl rfl rfl (by rw [hF]; rfl) ?_
      refine T_ren [(11, 11), (16, 70001)] rfl rfl rfl (by rw [hF]; rfl) ?_
      refine T_loop ?_
      obtain ⟨u0, hl0, hm⟩ := bindS hm
      refine TR_iter2 (m_impl_treeAt_F_L0 rec_impl_treeAt p0) (fun (s0 : Int × Int × (List Ptree)) => ⟨[(0, .sl 8 (List.map a_Stmt p0)), (1, .int .i64 s0.1), (7, .int .i64 s0.2.1), (8, .ptr 11 0 0)], [(11, .box [.int .i64 x18.Kind, .int .i64 x18.Var, .int .i64 x18.Event, .int .i64 x18.Sum.Const, .sl 1 (List.map a_i64 x18.Sum.Coeffs), .int .i64 x18.Index.Const, .sl 1 (List.map a_i64 x18.Index.Coeffs), .sl 2 (List.map a_Term x18.Facts), .int .i64 p1, .ow 70001]), (70001, .arr ⟨false, false⟩ 1 87 (List.map a_Ptree s0.2.2))]⟩) (fun u0 => match u0 with | .inl u0 => .exit 0 | .inr u0 => .ret) (fun u0 => match u0 with | .inl u0 => ⟨[(1, .int .i64 u0.1), (8, .ptr 11 0 0)], [(11, .box [.int .i64 x18.Kind, .int .i64 x18.Var, .int .i64 x18.Event, .int .i64 x18.Sum.Const, .sl 1 (List.map a_i64 x18.Sum.Coeffs), .int .i64 x18.Index.Const, .sl 1 (List.map a_i64 x18.Index.Coeffs), .sl 2 (List.map a_Term x18.Facts), .int .i64 p1, .ow 70001]), (70001, .arr ⟨false, false⟩ 1 87 (List.map a_Ptree u0.2))]⟩ | .inr u0 => ⟨[(4, a_Ptree u0.1), (5, .int .i64 u0.2.1), (6, .bool u0.2.2)], []⟩) (fun u0 => m_impl_treeAt_F_A0 p1 x18 u0 = some out) hl0 hm (fun u0 hm => ?_) (fun hx0 s0 c0 hm hc0 => ?_)
      · rcases u0 with u0 | u0
        · unfold m_impl_treeAt_F_A0 at hm
          refine T_seq ?_
          refine T_region ?_
          refine TL_pure rfl rfl rfl rfl (op_move rfl) ?_
          refine TL_pure rfl rfl rfl rfl (op_move rfl) ?_
          refine TL_pure rfl rfl rfl rfl (op_assign rfl) ?_
          refine TL_pure rfl rfl rfl rfl (op_assign rfl) ?_
          refine TL_pure rfl rfl rfl rfl (op_assign rfl) ?_
          refine TL_nil ?_
          refine T_freeze 70001 (by rw [hF]; rfl) rfl rfl rfl ?_
          refine T_freezeB 11 (by rw [hF]; rfl) rfl rfl rfl rfl ?_
          refine T_trAt 4 (x' := a_Ptree (re_tree (tree.mk x18 p1 u0.2))) rfl (TrR_fold (re_tree_eq (tree.mk x18 p1 u0.2))) rfl ?_
          refine T_keepH [4, 5, 6] [] rfl rfl rfl rfl (by rw [hF]; rfl) ?_
          refine T_ret ?_
          obtain rfl := someI hm
          refine ⟨[_, _, _], [], ⟨rfl, rfl, rfl, trivial⟩, ?_, rfl, rfl, rfl, rfl⟩
          rfl
        · unfold m_impl_treeAt_F_A0 at hm
          obtain rfl := someI hm
          refine ⟨[_, _, _], [], ⟨rfl, rfl, rfl, trivial⟩, ?_, rfl, rfl, rfl, rfl⟩
          rfl
      · unfold m_impl_treeAt_F_L0 at hm
        refine T_seq ?_
        refine T_seq ?_
        refine T_region ?_
        refine TL_pure rfl rfl rfl rfl (op_move rfl) ?_
        refine TL_pure rfl rfl rfl rfl (op_gtr rfl rfl) ?_
        refine TL_nil ?_
        refine T_cond rfl (fun hq => ?_) (fun hq => ?_)
        · replace hm := condT hq hm
          refine T_skip ?_
          refine T_seq ?_
          refine T_block ?_
          refine T_seq ?_
          refine T_region ?_
          refine TL_pure rfl rfl rfl rfl (op_move rfl) ?_
          refine TL_pure rfl rfl rfl rfl (op_move rfl) ?_
          obtain ⟨r39, hr39, hm⟩ := bindS hm
          refine TL_callT (hrec_impl_treeAt p0 s0.1 r39 hr39) Try.call97 rfl rfl rfl rfl rfl ?_
          refine TL_pure rfl rfl rfl rfl (op_move rfl) ?_
          refine TL_pure rfl rfl rfl rfl (op_extract rfl rfl) ?_
          refine TL_pure rfl rfl rfl rfl (op_extract rfl rfl) ?_
          refine TL_pure rfl rfl rfl rfl (op_extract rfl rfl) ?_
          refine TL_pure rfl rfl rfl rfl (op_assign rfl) ?_
          refine TL_pure rfl rfl rfl rfl (op_assign rfl) ?_
          refine TL_pure rfl rfl rfl rfl (op_assign rfl) ?_
          refine TL_nil ?_
          refine T_seq ?_
          refine T_seq ?_
          refine T_region ?_
          refine TL_pure rfl rfl rfl rfl (op_move rfl) ?_
          refine TL_pure rfl rfl rfl rfl (op_not rfl) ?_
          refine TL_nil ?_
          refine T_cond rfl (fun hq => ?_) (fun hq => ?_)
          · replace hm := condT hq hm
            refine T_seq ?_
            refine T_region ?_
            refine TL_pure rfl rfl rfl rfl (op_assign rfl) ?_
            refine TL_pure rfl rfl rfl rfl (op_assign rfl) ?_
            refine TL_pure rfl rfl rfl rfl (op_assign rfl) ?_
            refine TL_nil ?_
            refine T_trAt 4 (x' := a_Ptree (.nil : Ptree)) rfl (TrR_nil) rfl ?_
            refine T_keepH [4, 5, 6] [] rfl rfl rfl rfl (by rw [hF]; rfl) ?_
            refine T_ret ?_
            obtain rfl := someI hm
            have hn := CtlOK_out hc0
            exact hx0 (.inr ((.nil : Ptree), (0 : Int), false)) hn
          · replace hm := condF hq hm
            refine T_skip ?_
            refine T_seq ?_
            refine T_region ?_
            refine TL_pure rfl rfl rfl rfl (op_move rfl) ?_
            refine TL_pure rfl rfl rfl rfl (op_move rfl) ?_
            refine TL_pure rfl rfl rfl rfl (op_nilCheck rfl rfl) ?_
            refine TL_pure rfl rfl rfl rfl (op_fieldAddr fa94_2 rfl rfl) ?_
            refine TL_pure rfl rfl rfl rfl (op_load_one ag88 rfl rfl) ?_
            refine TL_pure rfl rfl rfl rfl (op_move rfl) ?_
            refine TL_buildSlice 15 (es := List.map a_Ptree [r39.1]) el88 z87 rfl rfl rfl rfl rfl rfl rfl rfl rfl ?_
            obtain ⟨q52, hq52, hm⟩ := bindS hm
            refine TL_appendT (f := a_Ptree) (a := s0.2.2) (b := [r39.1]) el88 z87 rfl rfl rfl rfl rfl rfl rfl (capI_spec hq52) rfl rfl rfl rfl rfl ?_
            refine TL_pure rfl rfl rfl rfl (op_nilCheck rfl rfl) ?_
            refine TL_pure rfl rfl rfl rfl (op_fieldAddr fa94_2 rfl rfl) ?_
            refine TL_store_box sz88 rfl rfl rfl rfl rfl rfl rfl rfl rfl ?_
            refine TL_nil ?_
            refine T_region ?_
            refine TL_pure rfl rfl rfl rfl (op_move rfl) ?_
            refine TL_pure rfl rfl rfl rfl (op_assign rfl) ?_
            refine TL_nil ?_
            refine T_region ?_
            refine TL_pure rfl rfl rfl rfl (op_move rfl) ?_
            refine TL_pure rfl rfl rfl rfl (op_subW rfl rfl) ?_
            refine TL_pure rfl rfl rfl rfl (op_assign rfl) ?_
            refine TL_nil ?_
            refine TR_keepH [0, 1, 7, 8] [11, 70001] rfl rfl rfl rfl (by rw [hF]; rfl) ?_
            obtain rfl := someI hm
            have hn := CtlOK_next hc0
            exact hn _ rfl
        · replace hm := condF hq hm
          refine T_keepH [1, 8] [11, 70001] rfl rfl rfl rfl (by rw [hF]; rfl) ?_
          refine T_exit ?_
          obtain rfl := someI hm
          have hn := CtlOK_out hc0
          exact hx0 (.inl (s0.1, s0.2.2)) hn
theorem c_impl_treeAt : ∀ (n : Nat) (p0 : List Stmt) (p1 : Int) (out : Ptree × Int × Bool), m_impl_treeAt n p0 p1 = some out → ACall Try.prog 97 [.sl 8 (List.map a_Stmt p0), .int .i64 p1] [] (.tup [a_Ptree out.1, .int .i64 out.2.1, .bool out.2.2]) [] := by
  intro n
  induction n with
  | zero => intro p0 p1 out hm; cases hm
  | succ n ih => intro p0 p1 out hm; exact c_impl_treeAt_F (m_impl_treeAt n) ih p0 p1 out hm
theorem c_impl_treeOf (p0 : List Stmt) (out : Ptree × Bool) (hm : m_impl_treeOf p0 = some out) : ACall Try.prog 75 [.sl 8 (List.map a_Stmt p0)] [] (.tup [a_Ptree out.1, .bool out.2]) [] := by
  refine ACall.intro Try.func75 rfl Try.ntmps75 rfl (fun F hF => ?_)
  unfold m_impl_treeOf at hm
  refine T_seq ?_
  refine T_region ?_
  refine TL_pure rfl rfl rfl rfl (op_assign rfl) ?_
  refine TL_pure rfl rfl rfl rfl (op_assign rfl) ?_
  refine TL_nil ?_
  refine T_seq ?_
  refine T_seq ?_
  refine T_region ?_
  refine TL_pure rfl rfl rfl rfl (op_move rfl) ?_
  refine TL_pure rfl rfl rfl rfl (op_lenT Try.underlying31 rfl (List.length_map _)) ?_
  refine TL_fact (fun _ _ _ hr => RelP.slLen (i := 7) rfl hr) (fun hlen8 => ?_)
  rw [List.length_map] at hlen8
  refine TL_pure rfl rfl rfl rfl (op_gtr rfl rfl) ?_
  refine TL_nil ?_
  refine T_cond rfl (fun hq => ?_) (fun hq => ?_)
  · replace hm := condT hq hm
    refine T_seq ?_
    refine T_region ?_
    refine TL_pure rfl rfl rfl rfl (op_assign rfl) ?_
    refine TL_pure rfl rfl rfl rfl (op_assign rfl) ?_
    refine TL_nil ?_
    refine T_trAt 2 (x' := a_Ptree (.nil : Ptree)) rfl (TrR_nil) rfl ?_
    refine T_keepH [2, 3] [] rfl rfl rfl rfl (by rw [hF]; rfl) ?_
    refine T_ret ?_
    obtain rfl := someI hm
    refine ⟨[_, _], [], ⟨rfl, rfl, trivial⟩, ?_, rfl, rfl, rfl, rfl⟩
    rfl
  · replace hm := condF hq hm
    refine T_skip ?_
    refine T_seq ?_
    refine T_region ?_
    refine TL_pure rfl rfl rfl rfl (op_move rfl) ?_
    obtain ⟨r12, hr12, hm⟩ := bindS hm
    refine TL_callT (c_impl_treeAt 1000 p0 (0 : Int) r12 hr12) Try.call97 rfl rfl rfl rfl rfl ?_
    refine TL_pure rfl rfl rfl rfl (op_move rfl) ?_
    refine TL_pure rfl rfl rfl rfl (op_extract rfl rfl) ?_
    refine TL_pure rfl rfl rfl rfl (op_extract rfl rfl) ?_
    refine TL_pure rfl rfl rfl rfl (op_extract rfl rfl) ?_
    refine TL_pure rfl rfl rfl rfl (op_assign rfl) ?_
    refine TL_pure rfl rfl rfl rfl (op_assign rfl) ?_
    refine TL_pure rfl rfl rfl rfl (op_assign rfl) ?_
    refine TL_nil ?_
    refine T_seq ?_
    refine T_region ?_
    refine TL_pure rfl rfl rfl rfl (op_move rfl) ?_
    refine TL_pure rfl rfl rfl rfl (op_move rfl) ?_
    refine TL_pure rfl rfl rfl rfl (op_move rfl) ?_
    refine TL_join 5 (fun _ : Unit => ⟨[(16, a_Ptree r12.1), (23, .bool (r12.2.2 && (decide (r12.2.1 = (p0.length : Int)))))], []⟩) (fun _ => True) (fun _ _ => ?_) (fun hjj => ?_)
    · refine TL_pure rfl rfl rfl rfl (op_assign rfl) ?_
      refine TL_pure rfl rfl rfl rfl (op_assign rfl) ?_
      refine TL_nil ?_
      refine T_keepH [2, 3] [] rfl rfl rfl rfl (by rw [hF]; rfl) ?_
      refine T_ret ?_
      obtain rfl := someI hm
      refine ⟨[_, _], [], ⟨rfl, rfl, trivial⟩, ?_, rfl, rfl, rfl, rfl⟩
      rfl
    · refine TL_split 18 rfl rfl rfl (fun hq => ?_) (fun hq => ?_)
      · refine TL_want rfl rfl ?_
        refine TL_pure rfl rfl rfl rfl (op_move rfl) ?_
        refine TL_want rfl rfl ?_
        refine TL_pure rfl rfl rfl rfl (op_move rfl) ?_
        refine TL_want rfl rfl ?_
        refine TL_pure rfl rfl rfl rfl (op_lenT Try.underlying31 rfl (List.length_map _)) ?_
        refine TL_want rfl rfl ?_
        refine TL_pure rfl rfl rfl rfl (op_eql rfl rfl) ?_
        refine TL_pure rfl rfl rfl rfl (op_pick_true rfl rfl) ?_
        refine TL_keepH [16, 23] [] rfl rfl rfl rfl (by rw [hF]; rfl) ?_
        exact TL_cast _ (by first | (rw [hq, Bool.true_and]; done) | (rw [hq]; rfl)) (hjj () trivial)
      · refine TL_pass rfl rfl rfl rfl rfl rfl rfl ?_
        refine TL_pass rfl rfl rfl rfl rfl rfl rfl ?_
        refine TL_pass rfl rfl rfl rfl rfl rfl rfl ?_
        refine TL_pass rfl rfl rfl rfl rfl rfl rfl ?_
        refine TL_pure rfl rfl rfl rfl (op_pick_false rfl rfl) ?_
        refine TL_keepH [16, 23] [] rfl rfl rfl rfl (by rw [hF]; rfl) ?_
        exact TL_cast _ (by first | (rw [hq, Bool.false_and]; done) | (rw [hq]; rfl)) (hjj () trivial)
theorem c_impl_IsBody (p0 : List Stmt) (out : Bool) (hm : m_impl_IsBody p0 = some out) : ACall Try.prog 96 [.sl 8 (List.map a_Stmt p0)] [] (.bool out) [] := by
  refine ACall.intro Try.func96 rfl Try.ntmps96 rfl (fun F hF => ?_)
  unfold m_impl_IsBody at hm
  refine T_seq ?_
  refine T_region ?_
  refine TL_pure rfl rfl rfl rfl (op_assign rfl) ?_
  refine TL_nil ?_
  refine T_seq ?_
  refine T_region ?_
  refine TL_pure rfl rfl rfl rfl (op_move rfl) ?_
  obtain ⟨r7, hr7, hm⟩ := bindS hm
  refine TL_callT (c_impl_treeOf p0 r7 hr7) Try.call75 rfl rfl rfl rfl rfl ?_
  refine TL_pure rfl rfl rfl rfl (op_move rfl) ?_
  refine TL_pure rfl rfl rfl rfl (op_extract rfl rfl) ?_
  refine TL_pure rfl rfl rfl rfl (op_extract rfl rfl) ?_
  refine TL_pure rfl rfl rfl rfl (op_assign rfl) ?_
  refine TL_pure rfl rfl rfl rfl (op_assign rfl) ?_
  refine TL_nil ?_
  refine T_seq ?_
  refine T_region ?_
  refine TL_pure rfl rfl rfl rfl (op_move rfl) ?_
  refine TL_pure rfl rfl rfl rfl (op_assign rfl) ?_
  refine TL_nil ?_
  refine T_keepH [2] [] rfl rfl rfl rfl (by rw [hF]; rfl) ?_
  refine T_ret ?_
  obtain rfl := someI hm
  refine ⟨[_], [], ⟨rfl, trivial⟩, ?_, rfl, rfl, rfl, rfl⟩
  rfl
theorem c_impl_ValidProgram (p0 : Program) (out : Bool) (hm : m_impl_ValidProgram p0 = some out) : ACall Try.prog 74 [.agg [.sl 2 (List.map a_Term p0.Pre), .sl 8 (List.map a_Stmt p0.Body), .sl 2 (List.map a_Term p0.Post)]] [] (.bool out) [] := by
  refine ACall.intro Try.func74 rfl Try.ntmps74 rfl (fun F hF => ?_)
  unfold m_impl_ValidProgram at hm
  refine T_seq ?_
  refine T_region ?_
  refine TL_box 11 rfl rfl rfl rfl rfl rfl rfl ?_
  refine TL_pure rfl rfl rfl rfl (op_assign rfl) ?_
  refine TL_nil ?_
  refine T_seq ?_
  refine T_region ?_
  refine TL_pure rfl rfl rfl rfl (op_fieldAddr fa33_1 rfl rfl) ?_
  refine TL_pure rfl rfl rfl rfl (op_load_one ag31 rfl rfl) ?_
  obtain ⟨r5, hr5, hm⟩ := bindS hm
  refine TL_callF (c_impl_IsBody p0.Body r5 hr5) Try.call96 rfl rfl rfl rfl rfl ?_
  refine TL_pure rfl rfl rfl rfl (op_move rfl) ?_
  refine TL_split 6 rfl rfl rfl (fun hq => ?_) (fun hq => ?_)
  · replace hm := condT hq hm
    refine TL_want rfl rfl ?_
    refine TL_pure rfl rfl rfl rfl (op_fieldAddr fa33_0 rfl rfl) ?_
    refine TL_want rfl rfl ?_
    refine TL_pure rfl rfl rfl rfl (op_load_one ag30 rfl rfl) ?_
    refine TL_want rfl rfl ?_
    obtain ⟨r9, hr9, hm⟩ := bindS hm
    refine TL_callF (c_impl_areOver p0.Pre (6 : Int) r9 hr9) Try.call82 rfl rfl rfl rfl rfl ?_
    refine TL_pure rfl rfl rfl rfl (op_pick_true rfl rfl) ?_
    refine TL_pure rfl rfl rfl rfl (op_move rfl) ?_
    refine TL_split 11 rfl rfl rfl (fun hq => ?_) (fun hq => ?_)
    · replace hm := condT hq hm
      refine TL_want rfl rfl ?_
      refine TL_pure rfl rfl rfl rfl (op_fieldAddr fa33_2 rfl rfl) ?_
      refine TL_want rfl rfl ?_
      refine TL_pure rfl rfl rfl rfl (op_load_one ag30 rfl rfl) ?_
      refine TL_want rfl rfl ?_
      obtain ⟨r14, hr14, hm⟩ := bindS hm
      refine TL_callF (c_impl_areOver p0.Post (6 : Int) r14 hr14) Try.call82 rfl rfl rfl rfl rfl ?_
      refine TL_pure rfl rfl rfl rfl (op_pick_true rfl rfl) ?_
      refine TL_pure rfl rfl rfl rfl (op_assign rfl) ?_
      refine TL_nil ?_
      refine T_keepH [2] [] rfl rfl rfl rfl (by rw [hF]; rfl) ?_
      refine T_ret ?_
      obtain rfl := someI hm
      refine ⟨[_], [], ⟨rfl, trivial⟩, ?_, rfl, rfl, rfl, rfl⟩
      rfl
    · replace hm := condF hq hm
      refine TL_pass rfl rfl rfl rfl rfl rfl rfl ?_
      refine TL_pass rfl rfl rfl rfl rfl rfl rfl ?_
      refine TL_pass rfl rfl rfl rfl rfl rfl rfl ?_
      refine TL_pure rfl rfl rfl rfl (op_pick_false rfl rfl) ?_
      refine TL_pure rfl rfl rfl rfl (op_assign rfl) ?_
      refine TL_nil ?_
      refine T_keepH [2] [] rfl rfl rfl rfl (by rw [hF]; rfl) ?_
      refine T_ret ?_
      obtain rfl := someI hm
      refine ⟨[_], [], ⟨rfl, trivial⟩, ?_, rfl, rfl, rfl, rfl⟩
      rfl
  · replace hm := condF hq hm
    refine TL_pass rfl rfl rfl rfl rfl rfl rfl ?_
    refine TL_pass rfl rfl rfl rfl rfl rfl rfl ?_
    refine TL_pass rfl rfl rfl rfl rfl rfl rfl ?_
    refine TL_pure rfl rfl rfl rfl (op_pick_false rfl rfl) ?_
    refine TL_pure rfl rfl rfl rfl (op_move rfl) ?_
    refine TL_pass rfl rfl rfl rfl rfl rfl rfl ?_
    refine TL_pass rfl rfl rfl rfl rfl rfl rfl ?_
    refine TL_pass rfl rfl rfl rfl rfl rfl rfl ?_
    refine TL_pure rfl rfl rfl rfl (op_pick_false rfl rfl) ?_
    refine TL_pure rfl rfl rfl rfl (op_assign rfl) ?_
    refine TL_nil ?_
    refine T_keepH [2] [] rfl rfl rfl rfl (by rw [hF]; rfl) ?_
    refine T_ret ?_
    obtain rfl := someI hm
    refine ⟨[_], [], ⟨rfl, trivial⟩, ?_, rfl, rfl, rfl, rfl⟩
    rfl
theorem c_impl_size (p0 : Int) (out : Int) (hm : m_impl_size p0 = some out) : ACall Try.prog 62 [.int .i64 p0] [] (.int .i64 out) [] := by
  refine ACall.intro Try.func62 rfl Try.ntmps62 rfl (fun F hF => ?_)
  unfold m_impl_size at hm
  refine T_seq ?_
  refine T_region ?_
  refine TL_pure rfl rfl rfl rfl (op_assign rfl) ?_
  refine TL_nil ?_
  refine T_seq ?_
  refine T_region ?_
  refine TL_pure rfl rfl rfl rfl (op_move rfl) ?_
  refine TL_pure rfl rfl rfl rfl (op_assign rfl) ?_
  refine TL_nil ?_
  refine T_keepH [2] [] rfl rfl rfl rfl (by rw [hF]; rfl) ?_
  refine T_ret ?_
  obtain rfl := someI hm
  refine ⟨[_], [], ⟨rfl, trivial⟩, ?_, rfl, rfl, rfl, rfl⟩
  rfl
theorem c_impl_plan_find_F (rec_impl_plan_find : plan → Ptree → Prest → Option plan) (hrec_impl_plan_find : ∀ (p0 : plan) (p1 : Ptree) (p2 : Prest) (out : plan), rec_impl_plan_find p0 p1 p2 = some out → ACall Try.prog 76 [.ptr 0 0 0, a_Ptree p1, a_Prest p2] [(0, .box [.sl 2 (List.map a_Term p0.gather.post), .ow 2, .sl 5 (List.map a_Path p0.gather.paths), .sl 3 (List.map a_Sequent p0.gather.conds), .bool p0.gather.failed, a_Ptree p0.body, .ow 3, .ow 4, .mp 1]), (1, .box (.tr (.tup (List.map aMa_i64a_i64 p0.number)) :: jk)), (2, .arr ⟨false, false⟩ 1 30 (List.map aLa_Term p0.gather.starts)), (3, .arr ⟨false, false⟩ 1 87 (List.map a_Ptree p0.loops)), (4, .arr ⟨false, false⟩ 1 159 (List.map a_Prest p0.behind))] (.tup []) [(0, .box [.sl 2 (List.map a_Term out.gather.post), .ow 2, .sl 5 (List.map a_Path out.gather.paths), .sl 3 (List.map a_Sequent out.gather.conds), .bool out.gather.failed, a_Ptree out.body, .ow 3, .ow 4, .mp 1]), (1, .box (.tr (.tup (List.map aMa_i64a_i64 out.number)) :: jk)), (2, .arr ⟨false, false⟩ 1 30 (List.map aLa_Term out.gather.starts)), (3, .arr ⟨false, false⟩ 1 87 (List.map a_Ptree out.loops)), (4, .arr ⟨false, false⟩ 1 159 (List.map a_Prest out.behind))]) (p0 : plan) (p1 : Ptree) (p2 : Prest) (out : plan) (hm : m_impl_plan_find_F rec_impl_plan_find p0 p1 p2 = some out) : ACall Try.prog 76 [.ptr 0 0 0, a_Ptree p1, a_Prest p2] [(0, .box [.sl 2 (List.map a_Term p0.gather.post), .ow 2, .sl 5 (List.map a_Path p0.gather.paths), .sl 3 (List.map a_Sequent p0.gather.conds), .bool p0.gather.failed, a_Ptree p0.body, .ow 3, .ow 4, .mp 1]), (1, .box (.tr (.tup (List.map aMa_i64a_i64 p0.number)) :: jk)), (2, .arr ⟨false, false⟩ 1 30 (List.map aLa_Term p0.gather.starts)), (3, .arr ⟨false, false⟩ 1 87 (List.map a_Ptree p0.loops)), (4, .arr ⟨false, false⟩ 1 159 (List.map a_Prest p0.behind))] (.tup []) [(0, .box [.sl 2 (List.map a_Term out.gather.post), .ow 2, .sl 5 (List.map a_Path out.gather.paths), .sl 3 (List.map a_Sequent out.gather.conds), .bool out.gather.failed, a_Ptree out.body, .ow 3, .ow 4, .mp 1]), (1, .box (.tr (.tup (List.map aMa_i64a_i64 out.number)) :: jk)), (2, .arr ⟨false, false⟩ 1 30 (List.map aLa_Term out.gather.starts)), (3, .arr ⟨false, false⟩ 1 87 (List.map a_Ptree out.loops)), (4, .arr ⟨false, false⟩ 1 159 (List.map a_Prest out.behind))] := by
  refine ACall.intro Try.func76 rfl Try.ntmps76 rfl (fun F hF => ?_)
  unfold m_impl_plan_find_F at hm
  refine T_seq ?_
  refine T_region ?_
  refine TL_pure rfl rfl rfl rfl (op_move rfl) ?_
  obtain ⟨o7, ho7, hm⟩ := bindS hm
  refine TL_trAt 7 (x' := .cp [.int .i64 o7.Stmt.Kind, .int .i64 o7.Stmt.Var, .int .i64 o7.Stmt.Event, .int .i64 o7.Stmt.Sum.Const, .sl 1 (List.map a_i64 o7.Stmt.Sum.Coeffs), .int .i64 o7.Stmt.Index.Const, .sl 1 (List.map a_i64 o7.Stmt.Index.Coeffs), .sl 2 (List.map a_Term o7.Stmt.Facts), .int .i64 o7.at_, .sl 1 (List.map a_Ptree o7.kids)]) rfl (TrR_open (un_tree_eq ho7)) rfl ?_
  refine TL_pure rfl rfl rfl rfl (op_nilCheck rfl rfl) ?_
  refine TL_pure rfl rfl rfl rfl (op_fieldAddrC (n := 8) fa94_0 rfl rfl rfl) ?_
  refine TL_pure rfl rfl rfl rfl (op_fieldAddrC (n := 1) fa69_0 rfl rfl rfl) ?_
  refine TL_pure rfl rfl rfl rfl (op_load_one ag2 rfl rfl) ?_
  refine TL_nil ?_
  refine T_block ?_
  refine T_seq ?_
  refine T_region ?_
  refine TL_pure rfl rfl rfl rfl (op_eql rfl rfl) ?_
  refine TL_pure rfl rfl rfl rfl (op_assign rfl) ?_
  refine TL_nil ?_
  refine T_cond rfl (fun hq => ?_) (fun hq => ?_)
  · replace hm := condT hq hm
    refine T_join (fun (j0 : (List Term) × (List (List Term)) × (List Path) × (List Sequent) × Bool × Ptree × (List Ptree) × (List Prest) × (List (Int × Int))) => ⟨[(0, .ptr 0 0 0), (1, a_Ptree p1), (2, a_Prest p2)], [(0, .box [.sl 2 (List.map a_Term j0.1), .ow 2, .sl 5 (List.map a_Path j0.2.2.1), .sl 3 (List.map a_Sequent j0.2.2.2.1), .bool j0.2.2.2.2.1, a_Ptree j0.2.2.2.2.2.1, .ow 3, .ow 4, .mp 1]), (1, .box (.tr (.tup (List.map aMa_i64a_i64 j0.2.2.2.2.2.2.2.2)) :: jk)), (2, .arr ⟨false, false⟩ 1 30 (List.map aLa_Term j0.2.1)), (3, .arr ⟨false, false⟩ 1 87 (List.map a_Ptree j0.2.2.2.2.2.2.1)), (4, .arr ⟨false, false⟩ 1 159 (List.map a_Prest j0.2.2.2.2.2.2.2.1))]⟩) (fun j0 => m_impl_plan_find_F_J0 rec_impl_plan_find p2 o7 j0 = some out) (fun j0 hm => ?_) (fun hj0 => ?_)
    · unfold m_impl_plan_find_F_J0 at hm
      refine T_region ?_
      refine TL_pure rfl rfl rfl rfl (op_move rfl) ?_
      refine TL_pure rfl rfl rfl rfl (op_move rfl) ?_
      refine TL_trAt 32 (x' := .cp [.int .i64 o7.Stmt.Kind, .int .i64 o7.Stmt.Var, .int .i64 o7.Stmt.Event, .int .i64 o7.Stmt.Sum.Const, .sl 1 (List.map a_i64 o7.Stmt.Sum.Coeffs), .int .i64 o7.Stmt.Index.Const, .sl 1 (List.map a_i64 o7.Stmt.Index.Coeffs), .sl 2 (List.map a_Term o7.Stmt.Facts), .int .i64 o7.at_, .sl 1 (List.map a_Ptree o7.kids)]) rfl (TrR_open (un_tree_eq ho7)) rfl ?_
      refine TL_pure rfl rfl rfl rfl (op_nilCheck rfl rfl) ?_
      refine TL_pure rfl rfl rfl rfl (op_fieldAddr fa94_2 rfl rfl) ?_
      refine TL_pure rfl rfl rfl rfl (op_load_one ag88 rfl rfl) ?_
      obtain ⟨x36, hx36, hm⟩ := bindS hm
      refine TL_pure rfl rfl rfl rfl (op_indexT el88 rfl rfl hx36 rfl) ?_
      refine TL_pure rfl rfl rfl rfl (op_load_one ag87 rfl rfl) ?_
      refine TL_pure rfl rfl rfl rfl (op_move rfl) ?_
      obtain ⟨r39, hr39, hm⟩ := bindS hm
      refine TL_call [(0, 0), (1, 1), (2, 2), (3, 3), (4, 4)] [] [2, 3, 4] (hrec_impl_plan_find (plan.mk (gather.mk j0.1 j0.2.1 j0.2.2.1 j0.2.2.2.1 j0.2.2.2.2.1) j0.2.2.2.2.2.1 j0.2.2.2.2.2.2.1 j0.2.2.2.2.2.2.2.1 j0.2.2.2.2.2.2.2.2) x36 p2 r39 hr39) Try.call76 rfl rfl rfl rfl rfl ⟨rfl, rfl, rfl, rfl, rfl, trivial⟩ rfl rfl rfl rfl rfl rfl rfl rfl rfl rfl rfl ?_
      refine TL_keepH [] [0, 1, 2, 3, 4] rfl rfl rfl rfl (by rw [hF]; rfl) ?_
      refine TL_nil ?_
      obtain rfl := someI hm
      refine ⟨[], [0, 1, 2, 3, 4], trivial, ?_, rfl, rfl, rfl, rfl⟩
      rfl
    · refine T_drawZ [16] mix (by kernel_rfl) rfl ?_
      obtain ⟨x19, hx19, hm⟩ := bindS hm
      obtain ⟨x25, hx25, hm⟩ := bindS hm
      obtain ⟨r30, hr30, hm⟩ := bindS hm
      refine TZ_pure 0 (by kernel_rfl) rfl rfl rfl rfl rfl (op_move rfl) ?_
      refine TZ_pure 1 (by kernel_rfl) rfl rfl rfl rfl rfl (op_move rfl) ?_
      refine TZ_trAt 15 (x' := .cp [.int .i64 o7.Stmt.Kind, .int .i64 o7.Stmt.Var, .int .i64 o7.Stmt.Event, .int .i64 o7.Stmt.Sum.Const, .sl 1 (List.map a_i64 o7.Stmt.Sum.Coeffs), .int .i64 o7.Stmt.Index.Const, .sl 1 (List.map a_i64 o7.Stmt.Index.Coeffs), .sl 2 (List.map a_Term o7.Stmt.Facts), .int .i64 o7.at_, .sl 1 (List.map a_Ptree o7.kids)]) rfl (TrR_open (un_tree_eq ho7)) rfl ?_
      refine TZ_pure 2 (by kernel_rfl) rfl rfl rfl rfl rfl (op_nilCheck rfl rfl) ?_
      refine TZ_pure 3 (by kernel_rfl) rfl rfl rfl rfl rfl (op_fieldAddr fa94_2 rfl rfl) ?_
      refine TZ_pure 7 (by kernel_rfl) rfl rfl rfl rfl rfl (op_move rfl) ?_
      refine TZ_trAt 21 (x' := .cp [.int .i64 o7.Stmt.Kind, .int .i64 o7.Stmt.Var, .int .i64 o7.Stmt.Event, .int .i64 o7.Stmt.Sum.Const, .sl 1 (List.map a_i64 o7.Stmt.Sum.Coeffs), .int .i64 o7.Stmt.Index.Const, .sl 1 (List.map a_i64 o7.Stmt.Index.Coeffs), .sl 2 (List.map a_Term o7.Stmt.Facts), .int .i64 o7.at_, .sl 1 (List.map a_Ptree o7.kids)]) rfl (TrR_open (un_tree_eq ho7)) rfl ?_
      refine TZ_pure 8 (by kernel_rfl) rfl rfl rfl rfl rfl (op_nilCheck rfl rfl) ?_
      refine TZ_pure 9 (by kernel_rfl) rfl rfl rfl rfl rfl (op_fieldAddr fa94_2 rfl rfl) ?_
      refine TZ_pure 13 (by kernel_rfl) rfl rfl rfl rfl rfl (op_move rfl) ?_
      refine TZ_cut 8 [true, true, true, true, true, false, false, true, true, true, false, false, false, true, false, false, false] ⟨[(0, .ptr 0 0 0), (1, a_Ptree p1), (2, a_Prest p2), (7, .cp [.int .i64 o7.Stmt.Kind, .int .i64 o7.Stmt.Var, .int .i64 o7.Stmt.Event, .int .i64 o7.Stmt.Sum.Const, .sl 1 (List.map a_i64 o7.Stmt.Sum.Coeffs), .int .i64 o7.Stmt.Index.Const, .sl 1 (List.map a_i64 o7.Stmt.Index.Coeffs), .sl 2 (List.map a_Term o7.Stmt.Facts), .int .i64 o7.at_, .sl 1 (List.map a_Ptree o7.kids)]), (8, .cp [.int .i64 o7.Stmt.Kind, .int .i64 o7.Stmt.Var, .int .i64 o7.Stmt.Event, .int .i64 o7.Stmt.Sum.Const, .sl 1 (List.map a_i64 o7.Stmt.Sum.Coeffs), .int .i64 o7.Stmt.Index.Const, .sl 1 (List.map a_i64 o7.Stmt.Index.Coeffs), .sl 2 (List.map a_Term o7.Stmt.Facts), .int .i64 o7.at_, .sl 1 (List.map a_Ptree o7.kids)]), (9, .cp [.int .i64 o7.Stmt.Kind, .int .i64 o7.Stmt.Var, .int .i64 o7.Stmt.Event, .int .i64 o7.Stmt.Sum.Const, .sl 1 (List.map a_i64 o7.Stmt.Sum.Coeffs), .int .i64 o7.Stmt.Index.Const, .sl 1 (List.map a_i64 o7.Stmt.Index.Coeffs), .sl 2 (List.map a_Term o7.Stmt.Facts)]), (10, .cp [.int .i64 o7.Stmt.Kind]), (11, .int .i64 o7.Stmt.Kind), (12, .bool (decide (o7.Stmt.Kind = (1 : Int)))), (13, .bool (decide (o7.Stmt.Kind = (1 : Int)))), (14, .ptr 0 0 0), (15, .cp [.int .i64 o7.Stmt.Kind, .int .i64 o7.Stmt.Var, .int .i64 o7.Stmt.Event, .int .i64 o7.Stmt.Sum.Const, .sl 1 (List.map a_i64 o7.Stmt.Sum.Coeffs), .int .i64 o7.Stmt.Index.Const, .sl 1 (List.map a_i64 o7.Stmt.Index.Coeffs), .sl 2 (List.map a_Term o7.Stmt.Facts), .int .i64 o7.at_, .sl 1 (List.map a_Ptree o7.kids)]), (16, .cp [.int .i64 o7.Stmt.Kind, .int .i64 o7.Stmt.Var, .int .i64 o7.Stmt.Event, .int .i64 o7.Stmt.Sum.Const, .sl 1 (List.map a_i64 o7.Stmt.Sum.Coeffs), .int .i64 o7.Stmt.Index.Const, .sl 1 (List.map a_i64 o7.Stmt.Index.Coeffs), .sl 2 (List.map a_Term o7.Stmt.Facts), .int .i64 o7.at_, .sl 1 (List.map a_Ptree o7.kids)]), (17, .cp [.sl 1 (List.map a_Ptree o7.kids)]), (18, .sl 1 (List.map a_Ptree o7.kids)), (21, .cp [.int .i64 o7.Stmt.Kind, .int .i64 o7.Stmt.Var, .int .i64 o7.Stmt.Event, .int .i64 o7.Stmt.Sum.Const, .sl 1 (List.map a_i64 o7.Stmt.Sum.Coeffs), .int .i64 o7.Stmt.Index.Const, .sl 1 (List.map a_i64 o7.Stmt.Index.Coeffs), .sl 2 (List.map a_Term o7.Stmt.Facts), .int .i64 o7.at_, .sl 1 (List.map a_Ptree o7.kids)]), (22, .cp [.int .i64 o7.Stmt.Kind, .int .i64 o7.Stmt.Var, .int .i64 o7.Stmt.Event, .int .i64 o7.Stmt.Sum.Const, .sl 1 (List.map a_i64 o7.Stmt.Sum.Coeffs), .int .i64 o7.Stmt.Index.Const, .sl 1 (List.map a_i64 o7.Stmt.Index.Coeffs), .sl 2 (List.map a_Term o7.Stmt.Facts), .int .i64 o7.at_, .sl 1 (List.map a_Ptree o7.kids)]), (23, .cp [.sl 1 (List.map a_Ptree o7.kids)]), (27, a_Prest p2)], [(0, .box [.sl 2 (List.map a_Term p0.gather.post), .ow 2, .sl 5 (List.map a_Path p0.gather.paths), .sl 3 (List.map a_Sequent p0.gather.conds), .bool p0.gather.failed, a_Ptree p0.body, .ow 3, .ow 4, .mp 1]), (1, .box (.tr (.tup (List.map aMa_i64a_i64 p0.number)) :: jk)), (2, .arr ⟨false, false⟩ 1 30 (List.map aLa_Term p0.gather.starts)), (3, .arr ⟨false, false⟩ 1 87 (List.map a_Ptree p0.loops)), (4, .arr ⟨false, false⟩ 1 159 (List.map a_Prest p0.behind))]⟩ ?_ (fun hS1370_0 => ?_)
      · refine TZ_pure 5 (by kernel_rfl) rfl rfl rfl rfl rfl (op_indexT el88 rfl rfl hx19 rfl) ?_
        refine TZ_pure 6 (by kernel_rfl) rfl rfl rfl rfl rfl (op_load_one ag87 rfl rfl) ?_
        refine TZ_one 10 (by kernel_rfl) rfl ?_
        refine TL_pure rfl rfl rfl rfl (op_load_one ag88 rfl rfl) ?_
        refine TL_nil ?_
        refine TZ_pure 11 (by kernel_rfl) rfl rfl rfl rfl rfl (op_indexT el88 rfl rfl hx25 rfl) ?_
        refine TZ_one 12 (by kernel_rfl) rfl ?_
        refine TL_pure rfl rfl rfl rfl (op_load_one ag87 rfl rfl) ?_
        refine TL_nil ?_
        refine TZ_pure 14 (by kernel_rfl) rfl rfl rfl rfl rfl (op_buildP pl161 z161 rfl rfl rfl rfl rfl) ?_
        refine TZ_one 15 (by kernel_rfl) rfl ?_
        refine TL_box 2651 rfl rfl rfl rfl rfl rfl rfl ?_
        refine TL_nil ?_
        refine TZ_one 16 (by kernel_rfl) rfl ?_
        refine TL_freezeB 2651 (by rw [hF]; rfl) rfl rfl rfl rfl ?_
        refine TL_trAt 29 (x' := a_Prest (re_rest (rest.mk x25 (0 : Int) p2))) rfl (TrR_fold (re_rest_eq (rest.mk x25 (0 : Int) p2))) rfl ?_
        refine TL_call [(0, 0), (1, 1), (2, 2), (3, 3), (4, 4)] [] [2, 3, 4] (hrec_impl_plan_find p0 x19 (re_rest (rest.mk x25 (0 : Int) p2)) r30 hr30) Try.call76 rfl rfl rfl rfl rfl ⟨rfl, rfl, rfl, rfl, rfl, trivial⟩ rfl rfl rfl rfl rfl rfl rfl rfl rfl rfl rfl ?_
        refine TL_nil ?_
        refine TZ_done (by kernel_rfl) ?_
        refine T_keepH [0, 1, 2] [0, 1, 2, 3, 4] rfl rfl rfl rfl (by rw [hF]; rfl) ?_
        exact hj0 (r30.gather.post, r30.gather.starts, r30.gather.paths, r30.gather.conds, r30.gather.failed, r30.body, r30.loops, r30.behind, r30.number) hm
      refine TZ_cut 6 [true, true, true, true, true, false, false, true, true, true, true, true, false, true, false, false, false] ⟨[(0, .ptr 0 0 0), (1, a_Ptree p1), (2, a_Prest p2), (7, .cp [.int .i64 o7.Stmt.Kind, .int .i64 o7.Stmt.Var, .int .i64 o7.Stmt.Event, .int .i64 o7.Stmt.Sum.Const, .sl 1 (List.map a_i64 o7.Stmt.Sum.Coeffs), .int .i64 o7.Stmt.Index.Const, .sl 1 (List.map a_i64 o7.Stmt.Index.Coeffs), .sl 2 (List.map a_Term o7.Stmt.Facts), .int .i64 o7.at_, .sl 1 (List.map a_Ptree o7.kids)]), (8, .cp [.int .i64 o7.Stmt.Kind, .int .i64 o7.Stmt.Var, .int .i64 o7.Stmt.Event, .int .i64 o7.Stmt.Sum.Const, .sl 1 (List.map a_i64 o7.Stmt.Sum.Coeffs), .int .i64 o7.Stmt.Index.Const, .sl 1 (List.map a_i64 o7.Stmt.Index.Coeffs), .sl 2 (List.map a_Term o7.Stmt.Facts), .int .i64 o7.at_, .sl 1 (List.map a_Ptree o7.kids)]), (9, .cp [.int .i64 o7.Stmt.Kind, .int .i64 o7.Stmt.Var, .int .i64 o7.Stmt.Event, .int .i64 o7.Stmt.Sum.Const, .sl 1 (List.map a_i64 o7.Stmt.Sum.Coeffs), .int .i64 o7.Stmt.Index.Const, .sl 1 (List.map a_i64 o7.Stmt.Index.Coeffs), .sl 2 (List.map a_Term o7.Stmt.Facts)]), (10, .cp [.int .i64 o7.Stmt.Kind]), (11, .int .i64 o7.Stmt.Kind), (12, .bool (decide (o7.Stmt.Kind = (1 : Int)))), (13, .bool (decide (o7.Stmt.Kind = (1 : Int)))), (14, .ptr 0 0 0), (15, .cp [.int .i64 o7.Stmt.Kind, .int .i64 o7.Stmt.Var, .int .i64 o7.Stmt.Event, .int .i64 o7.Stmt.Sum.Const, .sl 1 (List.map a_i64 o7.Stmt.Sum.Coeffs), .int .i64 o7.Stmt.Index.Const, .sl 1 (List.map a_i64 o7.Stmt.Index.Coeffs), .sl 2 (List.map a_Term o7.Stmt.Facts), .int .i64 o7.at_, .sl 1 (List.map a_Ptree o7.kids)]), (16, .cp [.int .i64 o7.Stmt.Kind, .int .i64 o7.Stmt.Var, .int .i64 o7.Stmt.Event, .int .i64 o7.Stmt.Sum.Const, .sl 1 (List.map a_i64 o7.Stmt.Sum.Coeffs), .int .i64 o7.Stmt.Index.Const, .sl 1 (List.map a_i64 o7.Stmt.Index.Coeffs), .sl 2 (List.map a_Term o7.Stmt.Facts), .int .i64 o7.at_, .sl 1 (List.map a_Ptree o7.kids)]), (17, .cp [.sl 1 (List.map a_Ptree o7.kids)]), (18, .sl 1 (List.map a_Ptree o7.kids)), (21, .cp [.int .i64 o7.Stmt.Kind, .int .i64 o7.Stmt.Var, .int .i64 o7.Stmt.Event, .int .i64 o7.Stmt.Sum.Const, .sl 1 (List.map a_i64 o7.Stmt.Sum.Coeffs), .int .i64 o7.Stmt.Index.Const, .sl 1 (List.map a_i64 o7.Stmt.Index.Coeffs), .sl 2 (List.map a_Term o7.Stmt.Facts), .int .i64 o7.at_, .sl 1 (List.map a_Ptree o7.kids)]), (22, .cp [.int .i64 o7.Stmt.Kind, .int .i64 o7.Stmt.Var, .int .i64 o7.Stmt.Event, .int .i64 o7.Stmt.Sum.Const, .sl 1 (List.map a_i64 o7.Stmt.Sum.Coeffs), .int .i64 o7.Stmt.Index.Const, .sl 1 (List.map a_i64 o7.Stmt.Index.Coeffs), .sl 2 (List.map a_Term o7.Stmt.Facts), .int .i64 o7.at_, .sl 1 (List.map a_Ptree o7.kids)]), (23, .cp [.sl 1 (List.map a_Ptree o7.kids)]), (24, .sl 1 (List.map a_Ptree o7.kids)), (25, .cp [a_Ptree x25]), (27, a_Prest p2)], [(0, .box [.sl 2 (List.map a_Term p0.gather.post), .ow 2, .sl 5 (List.map a_Path p0.gather.paths), .sl 3 (List.map a_Sequent p0.gather.conds), .bool p0.gather.failed, a_Ptree p0.body, .ow 3, .ow 4, .mp 1]), (1, .box (.tr (.tup (List.map aMa_i64a_i64 p0.number)) :: jk)), (2, .arr ⟨false, false⟩ 1 30 (List.map aLa_Term p0.gather.starts)), (3, .arr ⟨false, false⟩ 1 87 (List.map a_Ptree p0.loops)), (4, .arr ⟨false, false⟩ 1 159 (List.map a_Prest p0.behind))]⟩ ?_ (fun hS1370_1 => ?_)
      · refine TZ_pure 5 (by kernel_rfl) rfl rfl rfl rfl rfl (op_indexT el88 rfl rfl hx19 rfl) ?_
        refine TZ_pure 6 (by kernel_rfl) rfl rfl rfl rfl rfl (op_load_one ag87 rfl rfl) ?_
        refine TZ_one 12 (by kernel_rfl) rfl ?_
        refine TL_pure rfl rfl rfl rfl (op_load_one ag87 rfl rfl) ?_
        refine TL_nil ?_
        refine TZ_pure 14 (by kernel_rfl) rfl rfl rfl rfl rfl (op_buildP pl161 z161 rfl rfl rfl rfl rfl) ?_
        refine TZ_one 15 (by kernel_rfl) rfl ?_
        refine TL_box 2651 rfl rfl rfl rfl rfl rfl rfl ?_
        refine TL_nil ?_
        refine TZ_one 16 (by kernel_rfl) rfl ?_
        refine TL_freezeB 2651 (by rw [hF]; rfl) rfl rfl rfl rfl ?_
        refine TL_trAt 29 (x' := a_Prest (re_rest (rest.mk x25 (0 : Int) p2))) rfl (TrR_fold (re_rest_eq (rest.mk x25 (0 : Int) p2))) rfl ?_
        refine TL_call [(0, 0), (1, 1), (2, 2), (3, 3), (4, 4)] [] [2, 3, 4] (hrec_impl_plan_find p0 x19 (re_rest (rest.mk x25 (0 : Int) p2)) r30 hr30) Try.call76 rfl rfl rfl rfl rfl ⟨rfl, rfl, rfl, rfl, rfl, trivial⟩ rfl rfl rfl rfl rfl rfl rfl rfl rfl rfl rfl ?_
        refine TL_nil ?_
        refine TZ_done (by kernel_rfl) ?_
        refine T_keepH [0, 1, 2] [0, 1, 2, 3, 4] rfl rfl rfl rfl (by rw [hF]; rfl) ?_
        exact hj0 (r30.gather.post, r30.gather.starts, r30.gather.paths, r30.gather.conds, r30.gather.failed, r30.body, r30.loops, r30.behind, r30.number) hm
      refine TZ_cut 4 [true, true, true, true, true, false, false, true, true, true, true, true, true, true, true, false, false] ⟨[(0, .ptr 0 0 0), (1, a_Ptree p1), (2, a_Prest p2), (7, .cp [.int .i64 o7.Stmt.Kind, .int .i64 o7.Stmt.Var, .int .i64 o7.Stmt.Event, .int .i64 o7.Stmt.Sum.Const, .sl 1 (List.map a_i64 o7.Stmt.Sum.Coeffs), .int .i64 o7.Stmt.Index.Const, .sl 1 (List.map a_i64 o7.Stmt.Index.Coeffs), .sl 2 (List.map a_Term o7.Stmt.Facts), .int .i64 o7.at_, .sl 1 (List.map a_Ptree o7.kids)]), (8, .cp [.int .i64 o7.Stmt.Kind, .int .i64 o7.Stmt.Var, .int .i64 o7.Stmt.Event, .int .i64 o7.Stmt.Sum.Const, .sl 1 (List.map a_i64 o7.Stmt.Sum.Coeffs), .int .i64 o7.Stmt.Index.Const, .sl 1 (List.map a_i64 o7.Stmt.Index.Coeffs), .sl 2 (List.map a_Term o7.Stmt.Facts), .int .i64 o7.at_, .sl 1 (List.map a_Ptree o7.kids)]), (9, .cp [.int .i64 o7.Stmt.Kind, .int .i64 o7.Stmt.Var, .int .i64 o7.Stmt.Event, .int .i64 o7.Stmt.Sum.Const, .sl 1 (List.map a_i64 o7.Stmt.Sum.Coeffs), .int .i64 o7.Stmt.Index.Const, .sl 1 (List.map a_i64 o7.Stmt.Index.Coeffs), .sl 2 (List.map a_Term o7.Stmt.Facts)]), (10, .cp [.int .i64 o7.Stmt.Kind]), (11, .int .i64 o7.Stmt.Kind), (12, .bool (decide (o7.Stmt.Kind = (1 : Int)))), (13, .bool (decide (o7.Stmt.Kind = (1 : Int)))), (14, .ptr 0 0 0), (15, .cp [.int .i64 o7.Stmt.Kind, .int .i64 o7.Stmt.Var, .int .i64 o7.Stmt.Event, .int .i64 o7.Stmt.Sum.Const, .sl 1 (List.map a_i64 o7.Stmt.Sum.Coeffs), .int .i64 o7.Stmt.Index.Const, .sl 1 (List.map a_i64 o7.Stmt.Index.Coeffs), .sl 2 (List.map a_Term o7.Stmt.Facts), .int .i64 o7.at_, .sl 1 (List.map a_Ptree o7.kids)]), (16, .cp [.int .i64 o7.Stmt.Kind, .int .i64 o7.Stmt.Var, .int .i64 o7.Stmt.Event, .int .i64 o7.Stmt.Sum.Const, .sl 1 (List.map a_i64 o7.Stmt.Sum.Coeffs), .int .i64 o7.Stmt.Index.Const, .sl 1 (List.map a_i64 o7.Stmt.Index.Coeffs), .sl 2 (List.map a_Term o7.Stmt.Facts), .int .i64 o7.at_, .sl 1 (List.map a_Ptree o7.kids)]), (17, .cp [.sl 1 (List.map a_Ptree o7.kids)]), (18, .sl 1 (List.map a_Ptree o7.kids)), (21, .cp [.int .i64 o7.Stmt.Kind, .int .i64 o7.Stmt.Var, .int .i64 o7.Stmt.Event, .int .i64 o7.Stmt.Sum.Const, .sl 1 (List.map a_i64 o7.Stmt.Sum.Coeffs), .int .i64 o7.Stmt.Index.Const, .sl 1 (List.map a_i64 o7.Stmt.Index.Coeffs), .sl 2 (List.map a_Term o7.Stmt.Facts), .int .i64 o7.at_, .sl 1 (List.map a_Ptree o7.kids)]), (22, .cp [.int .i64 o7.Stmt.Kind, .int .i64 o7.Stmt.Var, .int .i64 o7.Stmt.Event, .int .i64 o7.Stmt.Sum.Const, .sl 1 (List.map a_i64 o7.Stmt.Sum.Coeffs), .int .i64 o7.Stmt.Index.Const, .sl 1 (List.map a_i64 o7.Stmt.Index.Coeffs), .sl 2 (List.map a_Term o7.Stmt.Facts), .int .i64 o7.at_, .sl 1 (List.map a_Ptree o7.kids)]), (23, .cp [.sl 1 (List.map a_Ptree o7.kids)]), (24, .sl 1 (List.map a_Ptree o7.kids)), (25, .cp [a_Ptree x25]), (26, a_Ptree x25), (27, a_Prest p2), (28, .agg [a_Ptree x25, .int .i64 (0 : Int), a_Prest p2])], [(0, .box [.sl 2 (List.map a_Term p0.gather.post), .ow 2, .sl 5 (List.map a_Path p0.gather.paths), .sl 3 (List.map a_Sequent p0.gather.conds), .bool p0.gather.failed, a_Ptree p0.body, .ow 3, .ow 4, .mp 1]), (1, .box (.tr (.tup (List.map aMa_i64a_i64 p0.number)) :: jk)), (2, .arr ⟨false, false⟩ 1 30 (List.map aLa_Term p0.gather.starts)), (3, .arr ⟨false, false⟩ 1 87 (List.map a_Ptree p0.loops)), (4, .arr ⟨false, false⟩ 1 159 (List.map a_Prest p0.behind))]⟩ ?_ (fun hS1370_2 => ?_)
      · refine TZ_pure 5 (by kernel_rfl) rfl rfl rfl rfl rfl (op_indexT el88 rfl rfl hx19 rfl) ?_
        refine TZ_pure 6 (by kernel_rfl) rfl rfl rfl rfl rfl (op_load_one ag87 rfl rfl) ?_
        refine TZ_one 15 (by kernel_rfl) rfl ?_
        refine TL_box 2651 rfl rfl rfl rfl rfl rfl rfl ?_
        refine TL_nil ?_
        refine TZ_one 16 (by kernel_rfl) rfl ?_
        refine TL_freezeB 2651 (by rw [hF]; rfl) rfl rfl rfl rfl ?_
        refine TL_trAt 29 (x' := a_Prest (re_rest (rest.mk x25 (0 : Int) p2))) rfl (TrR_fold (re_rest_eq (rest.mk x25 (0 : Int) p2))) rfl ?_
        refine TL_call [(0, 0), (1, 1), (2, 2), (3, 3), (4, 4)] [] [2, 3, 4] (hrec_impl_plan_find p0 x19 (re_rest (rest.mk x25 (0 : Int) p2)) r30 hr30) Try.call76 rfl rfl rfl rfl rfl ⟨rfl, rfl, rfl, rfl, rfl, trivial⟩ rfl rfl rfl rfl rfl rfl rfl rfl rfl rfl rfl ?_
        refine TL_nil ?_
        refine TZ_done (by kernel_rfl) ?_
        refine T_keepH [0, 1, 2] [0, 1, 2, 3, 4] rfl rfl rfl rfl (by rw [hF]; rfl) ?_
        exact hj0 (r30.gather.post, r30.gather.starts, r30.gather.paths, r30.gather.conds, r30.gather.failed, r30.body, r30.loops, r30.behind, r30.number) hm
      refine TZ_cut 4 [true, true, true, true, false, false, false, true, true, true, true, true, true, true, true, true, false] ⟨[(0, .ptr 0 0 0), (1, a_Ptree p1), (2, a_Prest p2), (7, .cp [.int .i64 o7.Stmt.Kind, .int .i64 o7.Stmt.Var, .int .i64 o7.Stmt.Event, .int .i64 o7.Stmt.Sum.Const, .sl 1 (List.map a_i64 o7.Stmt.Sum.Coeffs), .int .i64 o7.Stmt.Index.Const, .sl 1 (List.map a_i64 o7.Stmt.Index.Coeffs), .sl 2 (List.map a_Term o7.Stmt.Facts), .int .i64 o7.at_, .sl 1 (List.map a_Ptree o7.kids)]), (8, .cp [.int .i64 o7.Stmt.Kind, .int .i64 o7.Stmt.Var, .int .i64 o7.Stmt.Event, .int .i64 o7.Stmt.Sum.Const, .sl 1 (List.map a_i64 o7.Stmt.Sum.Coeffs), .int .i64 o7.Stmt.Index.Const, .sl 1 (List.map a_i64 o7.Stmt.Index.Coeffs), .sl 2 (List.map a_Term o7.Stmt.Facts), .int .i64 o7.at_, .sl 1 (List.map a_Ptree o7.kids)]), (9, .cp [.int .i64 o7.Stmt.Kind, .int .i64 o7.Stmt.Var, .int .i64 o7.Stmt.Event, .int .i64 o7.Stmt.Sum.Const, .sl 1 (List.map a_i64 o7.Stmt.Sum.Coeffs), .int .i64 o7.Stmt.Index.Const, .sl 1 (List.map a_i64 o7.Stmt.Index.Coeffs), .sl 2 (List.map a_Term o7.Stmt.Facts)]), (10, .cp [.int .i64 o7.Stmt.Kind]), (11, .int .i64 o7.Stmt.Kind), (12, .bool (decide (o7.Stmt.Kind = (1 : Int)))), (13, .bool (decide (o7.Stmt.Kind = (1 : Int)))), (14, .ptr 0 0 0), (15, .cp [.int .i64 o7.Stmt.Kind, .int .i64 o7.Stmt.Var, .int .i64 o7.Stmt.Event, .int .i64 o7.Stmt.Sum.Const, .sl 1 (List.map a_i64 o7.Stmt.Sum.Coeffs), .int .i64 o7.Stmt.Index.Const, .sl 1 (List.map a_i64 o7.Stmt.Index.Coeffs), .sl 2 (List.map a_Term o7.Stmt.Facts), .int .i64 o7.at_, .sl 1 (List.map a_Ptree o7.kids)]), (16, .cp [.int .i64 o7.Stmt.Kind, .int .i64 o7.Stmt.Var, .int .i64 o7.Stmt.Event, .int .i64 o7.Stmt.Sum.Const, .sl 1 (List.map a_i64 o7.Stmt.Sum.Coeffs), .int .i64 o7.Stmt.Index.Const, .sl 1 (List.map a_i64 o7.Stmt.Index.Coeffs), .sl 2 (List.map a_Term o7.Stmt.Facts), .int .i64 o7.at_, .sl 1 (List.map a_Ptree o7.kids)]), (17, .cp [.sl 1 (List.map a_Ptree o7.kids)]), (21, .cp [.int .i64 o7.Stmt.Kind, .int .i64 o7.Stmt.Var, .int .i64 o7.Stmt.Event, .int .i64 o7.Stmt.Sum.Const, .sl 1 (List.map a_i64 o7.Stmt.Sum.Coeffs), .int .i64 o7.Stmt.Index.Const, .sl 1 (List.map a_i64 o7.Stmt.Index.Coeffs), .sl 2 (List.map a_Term o7.Stmt.Facts), .int .i64 o7.at_, .sl 1 (List.map a_Ptree o7.kids)]), (22, .cp [.int .i64 o7.Stmt.Kind, .int .i64 o7.Stmt.Var, .int .i64 o7.Stmt.Event, .int .i64 o7.Stmt.Sum.Const, .sl 1 (List.map a_i64 o7.Stmt.Sum.Coeffs), .int .i64 o7.Stmt.Index.Const, .sl 1 (List.map a_i64 o7.Stmt.Index.Coeffs), .sl 2 (List.map a_Term o7.Stmt.Facts), .int .i64 o7.at_, .sl 1 (List.map a_Ptree o7.kids)]), (23, .cp [.sl 1 (List.map a_Ptree o7.kids)]), (24, .sl 1 (List.map a_Ptree o7.kids)), (25, .cp [a_Ptree x25]), (26, a_Ptree x25), (27, a_Prest p2), (28, .agg [a_Ptree x25, .int .i64 (0 : Int), a_Prest p2]), (29, .ptr 2651 0 0)], [(0, .box [.sl 2 (List.map a_Term p0.gather.post), .ow 2, .sl 5 (List.map a_Path p0.gather.paths), .sl 3 (List.map a_Sequent p0.gather.conds), .bool p0.gather.failed, a_Ptree p0.body, .ow 3, .ow 4, .mp 1]), (1, .box (.tr (.tup (List.map aMa_i64a_i64 p0.number)) :: jk)), (2, .arr ⟨false, false⟩ 1 30 (List.map aLa_Term p0.gather.starts)), (3, .arr ⟨false, false⟩ 1 87 (List.map a_Ptree p0.loops)), (4, .arr ⟨false, false⟩ 1 159 (List.map a_Prest p0.behind)), (2651, .box [a_Ptree x25, .int .i64 (0 : Int), a_Prest p2])]⟩ ?_ (fun hS1370_3 => ?_)
      · refine TZ_one 4 (by kernel_rfl) rfl ?_
        refine TL_pure rfl rfl rfl rfl (op_load_one ag88 rfl rfl) ?_
        refine TL_nil ?_
        refine TZ_pure 5 (by kernel_rfl) rfl rfl rfl rfl rfl (op_indexT el88 rfl rfl hx19 rfl) ?_
        refine TZ_pure 6 (by kernel_rfl) rfl rfl rfl rfl rfl (op_load_one ag87 rfl rfl) ?_
        refine TZ_one 16 (by kernel_rfl) rfl ?_
        refine TL_freezeB 2651 (by rw [hF]; rfl) rfl rfl rfl rfl ?_
        refine TL_trAt 29 (x' := a_Prest (re_rest (rest.mk x25 (0 : Int) p2))) rfl (TrR_fold (re_rest_eq (rest.mk x25 (0 : Int) p2))) rfl ?_
        refine TL_call [(0, 0), (1, 1), (2, 2), (3, 3), (4, 4)] [] [2, 3, 4] (hrec_impl_plan_find p0 x19 (re_rest (rest.mk x25 (0 : Int) p2)) r30 hr30) Try.call76 rfl rfl rfl rfl rfl ⟨rfl, rfl, rfl, rfl, rfl, trivial⟩ rfl rfl rfl rfl rfl rfl rfl rfl rfl rfl rfl ?_
        refine TL_nil ?_
        refine TZ_done (by kernel_rfl) ?_
        refine T_keepH [0, 1, 2] [0, 1, 2, 3, 4] rfl rfl rfl rfl (by rw [hF]; rfl) ?_
        exact hj0 (r30.gather.post, r30.gather.starts, r30.gather.paths, r30.gather.conds, r30.gather.failed, r30.body, r30.loops, r30.behind, r30.number) hm
      refine TZ_cut 6 [true, true, true, true, false, false, false, true, true, true, true, true, true, true, false, false, false] ⟨[(0, .ptr 0 0 0), (1, a_Ptree p1), (2, a_Prest p2), (7, .cp [.int .i64 o7.Stmt.Kind, .int .i64 o7.Stmt.Var, .int .i64 o7.Stmt.Event, .int .i64 o7.Stmt.Sum.Const, .sl 1 (List.map a_i64 o7.Stmt.Sum.Coeffs), .int .i64 o7.Stmt.Index.Const, .sl 1 (List.map a_i64 o7.Stmt.Index.Coeffs), .sl 2 (List.map a_Term o7.Stmt.Facts), .int .i64 o7.at_, .sl 1 (List.map a_Ptree o7.kids)]), (8, .cp [.int .i64 o7.Stmt.Kind, .int .i64 o7.Stmt.Var, .int .i64 o7.Stmt.Event, .int .i64 o7.Stmt.Sum.Const, .sl 1 (List.map a_i64 o7.Stmt.Sum.Coeffs), .int .i64 o7.Stmt.Index.Const, .sl 1 (List.map a_i64 o7.Stmt.Index.Coeffs), .sl 2 (List.map a_Term o7.Stmt.Facts), .int .i64 o7.at_, .sl 1 (List.map a_Ptree o7.kids)]), (9, .cp [.int .i64 o7.Stmt.Kind, .int .i64 o7.Stmt.Var, .int .i64 o7.Stmt.Event, .int .i64 o7.Stmt.Sum.Const, .sl 1 (List.map a_i64 o7.Stmt.Sum.Coeffs), .int .i64 o7.Stmt.Index.Const, .sl 1 (List.map a_i64 o7.Stmt.Index.Coeffs), .sl 2 (List.map a_Term o7.Stmt.Facts)]), (10, .cp [.int .i64 o7.Stmt.Kind]), (11, .int .i64 o7.Stmt.Kind), (12, .bool (decide (o7.Stmt.Kind = (1 : Int)))), (13, .bool (decide (o7.Stmt.Kind = (1 : Int)))), (14, .ptr 0 0 0), (15, .cp [.int .i64 o7.Stmt.Kind, .int .i64 o7.Stmt.Var, .int .i64 o7.Stmt.Event, .int .i64 o7.Stmt.Sum.Const, .sl 1 (List.map a_i64 o7.Stmt.Sum.Coeffs), .int .i64 o7.Stmt.Index.Const, .sl 1 (List.map a_i64 o7.Stmt.Index.Coeffs), .sl 2 (List.map a_Term o7.Stmt.Facts), .int .i64 o7.at_, .sl 1 (List.map a_Ptree o7.kids)]), (16, .cp [.int .i64 o7.Stmt.Kind, .int .i64 o7.Stmt.Var, .int .i64 o7.Stmt.Event, .int .i64 o7.Stmt.Sum.Const, .sl 1 (List.map a_i64 o7.Stmt.Sum.Coeffs), .int .i64 o7.Stmt.Index.Const, .sl 1 (List.map a_i64 o7.Stmt.Index.Coeffs), .sl 2 (List.map a_Term o7.Stmt.Facts), .int .i64 o7.at_, .sl 1 (List.map a_Ptree o7.kids)]), (17, .cp [.sl 1 (List.map a_Ptree o7.kids)]), (21, .cp [.int .i64 o7.Stmt.Kind, .int .i64 o7.Stmt.Var, .int .i64 o7.Stmt.Event, .int .i64 o7.Stmt.Sum.Const, .sl 1 (List.map a_i64 o7.Stmt.Sum.Coeffs), .int .i64 o7.Stmt.Index.Const, .sl 1 (List.map a_i64 o7.Stmt.Index.Coeffs), .sl 2 (List.map a_Term o7.Stmt.Facts), .int .i64 o7.at_, .sl 1 (List.map a_Ptree o7.kids)]), (22, .cp [.int .i64 o7.Stmt.Kind, .int .i64 o7.Stmt.Var, .int .i64 o7.Stmt.Event, .int .i64 o7.Stmt.Sum.Const, .sl 1 (List.map a_i64 o7.Stmt.Sum.Coeffs), .int .i64 o7.Stmt.Index.Const, .sl 1 (List.map a_i64 o7.Stmt.Index.Coeffs), .sl 2 (List.map a_Term o7.Stmt.Facts), .int .i64 o7.at_, .sl 1 (List.map a_Ptree o7.kids)]), (23, .cp [.sl 1 (List.map a_Ptree o7.kids)]), (24, .sl 1 (List.map a_Ptree o7.kids)), (25, .cp [a_Ptree x25]), (26, a_Ptree x25), (27, a_Prest p2)], [(0, .box [.sl 2 (List.map a_Term p0.gather.post), .ow 2, .sl 5 (List.map a_Path p0.gather.paths), .sl 3 (List.map a_Sequent p0.gather.conds), .bool p0.gather.failed, a_Ptree p0.body, .ow 3, .ow 4, .mp 1]), (1, .box (.tr (.tup (List.map aMa_i64a_i64 p0.number)) :: jk)), (2, .arr ⟨false, false⟩ 1 30 (List.map aLa_Term p0.gather.starts)), (3, .arr ⟨false, false⟩ 1 87 (List.map a_Ptree p0.loops)), (4, .arr ⟨false, false⟩ 1 159 (List.map a_Prest p0.behind))]⟩ ?_ (fun hS1370_4 => ?_)
      · refine TZ_pure 14 (by kernel_rfl) rfl rfl rfl rfl rfl (op_buildP pl161 z161 rfl rfl rfl rfl rfl) ?_
        refine TZ_each [4, 15] (by kernel_rfl) rfl ?_
        refine ⟨?_, ?_⟩
        · refine ⟨_, rfl, ?_⟩
          refine TL_pure rfl rfl rfl rfl (op_load_one ag88 rfl rfl) ?_
          refine TL_nil ?_
          refine TZ_keepH [0, 1, 2, 7, 8, 9, 10, 11, 12, 13, 14, 15, 16, 17, 18, 21, 22, 23, 24, 25, 26, 27, 28] [0, 1, 2, 3, 4] rfl rfl rfl rfl (by rw [hF]; rfl) ?_
          exact hS1370_2
        · refine ⟨_, rfl, ?_⟩
          refine TL_box 2651 rfl rfl rfl rfl rfl rfl rfl ?_
          refine TL_nil ?_
          refine TZ_keepH [0, 1, 2, 7, 8, 9, 10, 11, 12, 13, 14, 15, 16, 17, 21, 22, 23, 24, 25, 26, 27, 28, 29] [0, 1, 2, 3, 4, 2651] rfl rfl rfl rfl (by rw [hF]; rfl) ?_
          exact hS1370_3
      refine TZ_cut 8 [true, true, true, true, false, false, false, true, true, true, true, false, false, true, false, false, false] ⟨[(0, .ptr 0 0 0), (1, a_Ptree p1), (2, a_Prest p2), (7, .cp [.int .i64 o7.Stmt.Kind, .int .i64 o7.Stmt.Var, .int .i64 o7.Stmt.Event, .int .i64 o7.Stmt.Sum.Const, .sl 1 (List.map a_i64 o7.Stmt.Sum.Coeffs), .int .i64 o7.Stmt.Index.Const, .sl 1 (List.map a_i64 o7.Stmt.Index.Coeffs), .sl 2 (List.map a_Term o7.Stmt.Facts), .int .i64 o7.at_, .sl 1 (List.map a_Ptree o7.kids)]), (8, .cp [.int .i64 o7.Stmt.Kind, .int .i64 o7.Stmt.Var, .int .i64 o7.Stmt.Event, .int .i64 o7.Stmt.Sum.Const, .sl 1 (List.map a_i64 o7.Stmt.Sum.Coeffs), .int .i64 o7.Stmt.Index.Const, .sl 1 (List.map a_i64 o7.Stmt.Index.Coeffs), .sl 2 (List.map a_Term o7.Stmt.Facts), .int .i64 o7.at_, .sl 1 (List.map a_Ptree o7.kids)]), (9, .cp [.int .i64 o7.Stmt.Kind, .int .i64 o7.Stmt.Var, .int .i64 o7.Stmt.Event, .int .i64 o7.Stmt.Sum.Const, .sl 1 (List.map a_i64 o7.Stmt.Sum.Coeffs), .int .i64 o7.Stmt.Index.Const, .sl 1 (List.map a_i64 o7.Stmt.Index.Coeffs), .sl 2 (List.map a_Term o7.Stmt.Facts)]), (10, .cp [.int .i64 o7.Stmt.Kind]), (11, .int .i64 o7.Stmt.Kind), (12, .bool (decide (o7.Stmt.Kind = (1 : Int)))), (13, .bool (decide (o7.Stmt.Kind = (1 : Int)))), (14, .ptr 0 0 0), (15, .cp [.int .i64 o7.Stmt.Kind, .int .i64 o7.Stmt.Var, .int .i64 o7.Stmt.Event, .int .i64 o7.Stmt.Sum.Const, .sl 1 (List.map a_i64 o7.Stmt.Sum.Coeffs), .int .i64 o7.Stmt.Index.Const, .sl 1 (List.map a_i64 o7.Stmt.Index.Coeffs), .sl 2 (List.map a_Term o7.Stmt.Facts), .int .i64 o7.at_, .sl 1 (List.map a_Ptree o7.kids)]), (16, .cp [.int .i64 o7.Stmt.Kind, .int .i64 o7.Stmt.Var, .int .i64 o7.Stmt.Event, .int .i64 o7.Stmt.Sum.Const, .sl 1 (List.map a_i64 o7.Stmt.Sum.Coeffs), .int .i64 o7.Stmt.Index.Const, .sl 1 (List.map a_i64 o7.Stmt.Index.Coeffs), .sl 2 (List.map a_Term o7.Stmt.Facts), .int .i64 o7.at_, .sl 1 (List.map a_Ptree o7.kids)]), (17, .cp [.sl 1 (List.map a_Ptree o7.kids)]), (21, .cp [.int .i64 o7.Stmt.Kind, .int .i64 o7.Stmt.Var, .int .i64 o7.Stmt.Event, .int .i64 o7.Stmt.Sum.Const, .sl 1 (List.map a_i64 o7.Stmt.Sum.Coeffs), .int .i64 o7.Stmt.Index.Const, .sl 1 (List.map a_i64 o7.Stmt.Index.Coeffs), .sl 2 (List.map a_Term o7.Stmt.Facts), .int .i64 o7.at_, .sl 1 (List.map a_Ptree o7.kids)]), (22, .cp [.int .i64 o7.Stmt.Kind, .int .i64 o7.Stmt.Var, .int .i64 o7.Stmt.Event, .int .i64 o7.Stmt.Sum.Const, .sl 1 (List.map a_i64 o7.Stmt.Sum.Coeffs), .int .i64 o7.Stmt.Index.Const, .sl 1 (List.map a_i64 o7.Stmt.Index.Coeffs), .sl 2 (List.map a_Term o7.Stmt.Facts), .int .i64 o7.at_, .sl 1 (List.map a_Ptree o7.kids)]), (23, .cp [.sl 1 (List.map a_Ptree o7.kids)]), (24, .sl 1 (List.map a_Ptree o7.kids)), (27, a_Prest p2)], [(0, .box [.sl 2 (List.map a_Term p0.gather.post), .ow 2, .sl 5 (List.map a_Path p0.gather.paths), .sl 3 (List.map a_Sequent p0.gather.conds), .bool p0.gather.failed, a_Ptree p0.body, .ow 3, .ow 4, .mp 1]), (1, .box (.tr (.tup (List.map aMa_i64a_i64 p0.number)) :: jk)), (2, .arr ⟨false, false⟩ 1 30 (List.map aLa_Term p0.gather.starts)), (3, .arr ⟨false, false⟩ 1 87 (List.map a_Ptree p0.loops)), (4, .arr ⟨false, false⟩ 1 159 (List.map a_Prest p0.behind))]⟩ ?_ (fun hS1370_5 => ?_)
      · refine TZ_pure 11 (by kernel_rfl) rfl rfl rfl rfl rfl (op_indexT el88 rfl rfl hx25 rfl) ?_
        refine TZ_each [4, 12] (by kernel_rfl) rfl ?_
        refine ⟨?_, ?_⟩
        · refine ⟨_, rfl, ?_⟩
          refine TL_pure rfl rfl rfl rfl (op_load_one ag88 rfl rfl) ?_
          refine TL_nil ?_
          refine TZ_keepH [0, 1, 2, 7, 8, 9, 10, 11, 12, 13, 14, 15, 16, 17, 18, 21, 22, 23, 24, 25, 27] [0, 1, 2, 3, 4] rfl rfl rfl rfl (by rw [hF]; rfl) ?_
          exact hS1370_1
        · refine ⟨_, rfl, ?_⟩
          refine TL_pure rfl rfl rfl rfl (op_load_one ag87 rfl rfl) ?_
          refine TL_nil ?_
          refine TZ_keepH [0, 1, 2, 7, 8, 9, 10, 11, 12, 13, 14, 15, 16, 17, 21, 22, 23, 24, 25, 26, 27] [0, 1, 2, 3, 4] rfl rfl rfl rfl (by rw [hF]; rfl) ?_
          exact hS1370_4
      refine TZ_each [4, 10] (by kernel_rfl) rfl ?_
      refine ⟨?_, ?_⟩
      · refine ⟨_, rfl, ?_⟩
        refine TL_pure rfl rfl rfl rfl (op_load_one ag88 rfl rfl) ?_
        refine TL_nil ?_
        refine TZ_keepH [0, 1, 2, 7, 8, 9, 10, 11, 12, 13, 14, 15, 16, 17, 18, 21, 22, 23, 27] [0, 1, 2, 3, 4] rfl rfl rfl rfl (by rw [hF]; rfl) ?_
        exact hS1370_0
      · refine ⟨_, rfl, ?_⟩
        refine TL_pure rfl rfl rfl rfl (op_load_one ag88 rfl rfl) ?_
        refine TL_nil ?_
        refine TZ_keepH [0, 1, 2, 7, 8, 9, 10, 11, 12, 13, 14, 15, 16, 17, 21, 22, 23, 24, 27] [0, 1, 2, 3, 4] rfl rfl rfl rfl (by rw [hF]; rfl) ?_
        exact hS1370_5
  · replace hm := condF hq hm
    refine T_seq ?_
    refine T_region ?_
    refine TL_pure rfl rfl rfl rfl (op_eql rfl rfl) ?_
    refine TL_pure rfl rfl rfl rfl (op_assign rfl) ?_
    refine TL_nil ?_
    refine T_cond rfl (fun hq => ?_) (fun hq => ?_)
    · replace hm := condT hq hm
      refine T_seq ?_
      refine T_region ?_
      refine TL_pure rfl rfl rfl rfl (op_move rfl) ?_
      refine TL_pure rfl rfl rfl rfl (op_move rfl) ?_
      refine TL_trAt 43 (x' := .cp [.int .i64 o7.Stmt.Kind, .int .i64 o7.Stmt.Var, .int .i64 o7.Stmt.Event, .int .i64 o7.Stmt.Sum.Const, .sl 1 (List.map a_i64 o7.Stmt.Sum.Coeffs), .int .i64 o7.Stmt.Index.Const, .sl 1 (List.map a_i64 o7.Stmt.Index.Coeffs), .sl 2 (List.map a_Term o7.Stmt.Facts), .int .i64 o7.at_, .sl 1 (List.map a_Ptree o7.kids)]) rfl (TrR_open (un_tree_eq ho7)) rfl ?_
      refine TL_pure rfl rfl rfl rfl (op_nilCheck rfl rfl) ?_
      refine TL_pure rfl rfl rfl rfl (op_fieldAddr fa94_2 rfl rfl) ?_
      refine TL_pure rfl rfl rfl rfl (op_load_one ag88 rfl rfl) ?_
      obtain ⟨x47, hx47, hm⟩ := bindS hm
      refine TL_pure rfl rfl rfl rfl (op_indexT el88 rfl rfl hx47 rfl) ?_
      refine TL_pure rfl rfl rfl rfl (op_load_one ag87 rfl rfl) ?_
      refine TL_pure rfl rfl rfl rfl (op_move rfl) ?_
      obtain ⟨r50, hr50, hm⟩ := bindS hm
      refine TL_call [(0, 0), (1, 1), (2, 2), (3, 3), (4, 4)] [] [2, 3, 4] (hrec_impl_plan_find p0 x47 p2 r50 hr50) Try.call76 rfl rfl rfl rfl rfl ⟨rfl, rfl, rfl, rfl, rfl, trivial⟩ rfl rfl rfl rfl rfl rfl rfl rfl rfl rfl rfl ?_
      refine TL_nil ?_
      refine T_region ?_
      refine TL_pure rfl rfl rfl rfl (op_move rfl) ?_
      refine TL_pure rfl rfl rfl rfl (op_move rfl) ?_
      refine TL_trAt 52 (x' := .cp [.int .i64 o7.Stmt.Kind, .int .i64 o7.Stmt.Var, .int .i64 o7.Stmt.Event, .int .i64 o7.Stmt.Sum.Const, .sl 1 (List.map a_i64 o7.Stmt.Sum.Coeffs), .int .i64 o7.Stmt.Index.Const, .sl 1 (List.map a_i64 o7.Stmt.Index.Coeffs), .sl 2 (List.map a_Term o7.Stmt.Facts), .int .i64 o7.at_, .sl 1 (List.map a_Ptree o7.kids)]) rfl (TrR_open (un_tree_eq ho7)) rfl ?_
      refine TL_pure rfl rfl rfl rfl (op_nilCheck rfl rfl) ?_
      refine TL_pure rfl rfl rfl rfl (op_fieldAddr fa94_2 rfl rfl) ?_
      refine TL_pure rfl rfl rfl rfl (op_load_one ag88 rfl rfl) ?_
      obtain ⟨x56, hx56, hm⟩ := bindS hm
      refine TL_pure rfl rfl rfl rfl (op_indexT el88 rfl rfl hx56 rfl) ?_
      refine TL_pure rfl rfl rfl rfl (op_load_one ag87 rfl rfl) ?_
      refine TL_pure rfl rfl rfl rfl (op_move rfl) ?_
      obtain ⟨r59, hr59, hm⟩ := bindS hm
      refine TL_call [(0, 0), (1, 1), (2, 2), (3, 3), (4, 4)] [] [2, 3, 4] (hrec_impl_plan_find r50 x56 p2 r59 hr59) Try.call76 rfl rfl rfl rfl rfl ⟨rfl, rfl, rfl, rfl, rfl, trivial⟩ rfl rfl rfl rfl rfl rfl rfl rfl rfl rfl rfl ?_
      refine TL_keepH [] [0, 1, 2, 3, 4] rfl rfl rfl rfl (by rw [hF]; rfl) ?_
      refine TL_nil ?_
      obtain rfl := someI hm
      refine ⟨[], [0, 1, 2, 3, 4], trivial, ?_, rfl, rfl, rfl, rfl⟩
      rfl
    · replace hm := condF hq hm
      refine T_seq ?_
      refine T_region ?_
      refine TL_pure rfl rfl rfl rfl (op_eql rfl rfl) ?_
      refine TL_pure rfl rfl rfl rfl (op_assign rfl) ?_
      refine TL_nil ?_
      refine T_cond rfl (fun hq => ?_) (fun hq => ?_)
      · replace hm := condT hq hm
        refine T_seq ?_
        refine T_region ?_
        refine TL_pure rfl rfl rfl rfl (op_move rfl) ?_
        refine TL_pure rfl rfl rfl rfl (op_nilCheck rfl rfl) ?_
        refine TL_pure rfl rfl rfl rfl (op_fieldAddr fa92_2 rfl rfl) ?_
        refine TL_pure rfl rfl rfl rfl (op_load_one ag88 rfl rfl) ?_
        refine TL_pure rfl rfl rfl rfl (op_lenO Try.underlying88 rfl rfl (List.length_map _)) ?_
        refine TL_fact (fun _ _ _ hr => RelP.owLen (id := 3) rfl hr) (fun hlen66 => ?_)
        rw [List.length_map] at hlen66
        obtain ⟨r67, hr67, hm⟩ := bindS hm
        refine TL_callF (c_impl_size (p0.loops.length : Int) r67 hr67) Try.call62 rfl rfl rfl rfl rfl ?_
        refine TL_pure rfl rfl rfl rfl (op_assign rfl) ?_
        refine TL_nil ?_
        refine T_seq ?_
        refine T_drawZ [9] mix (by kernel_rfl) rfl ?_
        refine TZ_pure 0 (by kernel_rfl) rfl rfl rfl rfl rfl (op_move rfl) ?_
        refine TZ_pure 1 (by kernel_rfl) rfl rfl rfl rfl rfl (op_nilCheck rfl rfl) ?_
        refine TZ_pure 2 (by kernel_rfl) rfl rfl rfl rfl rfl (op_fieldAddr fa92_4 rfl rfl) ?_
        refine TZ_pure 3 (by kernel_rfl) rfl rfl rfl rfl rfl (op_load_one ag90 rfl rfl) ?_
        refine TZ_pure 4 (by kernel_rfl) rfl rfl rfl rfl rfl (op_move rfl) ?_
        refine TZ_trAt 72 (x' := .cp [.int .i64 o7.Stmt.Kind, .int .i64 o7.Stmt.Var, .int .i64 o7.Stmt.Event, .int .i64 o7.Stmt.Sum.Const, .sl 1 (List.map a_i64 o7.Stmt.Sum.Coeffs), .int .i64 o7.Stmt.Index.Const, .sl 1 (List.map a_i64 o7.Stmt.Index.Coeffs), .sl 2 (List.map a_Term o7.Stmt.Facts), .int .i64 o7.at_, .sl 1 (List.map a_Ptree o7.kids)]) rfl (TrR_open (un_tree_eq ho7)) rfl ?_
        refine TZ_pure 5 (by kernel_rfl) rfl rfl rfl rfl rfl (op_nilCheck rfl rfl) ?_
        refine TZ_pure 6 (by kernel_rfl) rfl rfl rfl rfl rfl (op_fieldAddrC (n := 1) fa94_1 rfl rfl rfl) ?_
        refine TZ_pure 7 (by kernel_rfl) rfl rfl rfl rfl rfl (op_load_one ag2 rfl rfl) ?_
        refine TZ_pure 8 (by kernel_rfl) rfl rfl rfl rfl rfl (op_move rfl) ?_
        refine TZ_one 9 (by kernel_rfl) rfl ?_
        refine TL_mapSet (f := aMa_i64a_i64) (encK := a_i64) (encV := a_i64) o7.at_ r67 Try.underlying90 (key_i64 Try.underlying2) (fun _ => rfl) rfl rfl rfl rfl rfl rfl rfl rfl rfl ?_
        refine TL_nil ?_
        refine TZ_done (by kernel_rfl) ?_
        refine T_seq ?_
        refine T_region ?_
        refine TL_pure rfl rfl rfl rfl (op_move rfl) ?_
        refine TL_pure rfl rfl rfl rfl (op_move rfl) ?_
        refine TL_pure rfl rfl rfl rfl (op_nilCheck rfl rfl) ?_
        refine TL_pure rfl rfl rfl rfl (op_fieldAddr fa92_2 rfl rfl) ?_
        refine TL_pure rfl rfl rfl rfl (op_load_one ag88 rfl rfl) ?_
        refine TL_pure rfl rfl rfl rfl (op_move rfl) ?_
        refine TL_buildSlice 2731 (es := List.map a_Ptree [p1]) el88 z87 rfl rfl rfl rfl rfl rfl rfl rfl rfl ?_
        obtain ⟨q84, hq84, hm⟩ := bindS hm
        refine TL_appendT (f := a_Ptree) (a := p0.loops) (b := [p1]) el88 z87 rfl rfl rfl rfl rfl rfl rfl (capI_spec hq84) rfl rfl rfl rfl rfl ?_
        refine TL_pure rfl rfl rfl rfl (op_nilCheck rfl rfl) ?_
        refine TL_pure rfl rfl rfl rfl (op_fieldAddr fa92_2 rfl rfl) ?_
        refine TL_store_box sz88 rfl rfl rfl rfl rfl rfl rfl rfl rfl ?_
        refine TL_nil ?_
        refine T_seq ?_
        refine T_region ?_
        refine TL_pure rfl rfl rfl rfl (op_move rfl) ?_
        refine TL_pure rfl rfl rfl rfl (op_move rfl) ?_
        refine TL_pure rfl rfl rfl rfl (op_nilCheck rfl rfl) ?_
        refine TL_pure rfl rfl rfl rfl (op_fieldAddr fa92_3 rfl rfl) ?_
        refine TL_pure rfl rfl rfl rfl (op_load_one ag89 rfl rfl) ?_
        refine TL_pure rfl rfl rfl rfl (op_move rfl) ?_
        refine TL_buildSlice 2732 (es := List.map a_Prest [p2]) el89 z159 rfl rfl rfl rfl rfl rfl rfl rfl rfl ?_
        obtain ⟨q94, hq94, hm⟩ := bindS hm
        refine TL_appendT (f := a_Prest) (a := p0.behind) (b := [p2]) el89 z159 rfl rfl rfl rfl rfl rfl rfl (capI_spec hq94) rfl rfl rfl rfl rfl ?_
        refine TL_pure rfl rfl rfl rfl (op_nilCheck rfl rfl) ?_
        refine TL_pure rfl rfl rfl rfl (op_fieldAddr fa92_3 rfl rfl) ?_
        refine TL_store_box sz89 rfl rfl rfl rfl rfl rfl rfl rfl rfl ?_
        refine TL_nil ?_
        refine T_join (fun (j1 : Unit) => ⟨[(0, .ptr 0 0 0), (1, a_Ptree p1), (6, .int .i64 r67)], [(0, .box [.sl 2 (List.map a_Term p0.gather.post), .ow 2, .sl 5 (List.map a_Path p0.gather.paths), .sl 3 (List.map a_Sequent p0.gather.conds), .bool p0.gather.failed, a_Ptree p0.body, .ow 3, .ow 4, .mp 1]), (1, .box (.tr (.tup (List.map aMa_i64a_i64 (mput p0.number o7.at_ r67))) :: jk)), (2, .arr ⟨false, false⟩ 1 30 (List.map aLa_Term (p0.gather.starts ++ [o7.Stmt.Facts]))), (3, .arr ⟨false, false⟩ 1 87 (List.map a_Ptree (p0.loops ++ [p1]))), (4, .arr ⟨false, false⟩ 1 159 (List.map a_Prest (p0.behind ++ [p2])))]⟩) (fun j1 => m_impl_plan_find_F_J1 rec_impl_plan_find p0 p1 p2 o7 r67 j1 = some out) (fun j1 hm => ?_) (fun hj1 => ?_)
        · unfold m_impl_plan_find_F_J1 at hm
          refine T_region ?_
          refine TL_pure rfl rfl rfl rfl (op_move rfl) ?_
          refine TL_pure rfl rfl rfl rfl (op_move rfl) ?_
          refine TL_trAt 114 (x' := .cp [.int .i64 o7.Stmt.Kind, .int .i64 o7.Stmt.Var, .int .i64 o7.Stmt.Event, .int .i64 o7.Stmt.Sum.Const, .sl 1 (List.map a_i64 o7.Stmt.Sum.Coeffs), .int .i64 o7.Stmt.Index.Const, .sl 1 (List.map a_i64 o7.Stmt.Index.Coeffs), .sl 2 (List.map a_Term o7.Stmt.Facts), .int .i64 o7.at_, .sl 1 (List.map a_Ptree o7.kids)]) rfl (TrR_open (un_tree_eq ho7)) rfl ?_
          refine TL_pure rfl rfl rfl rfl (op_nilCheck rfl rfl) ?_
          refine TL_pure rfl rfl rfl rfl (op_fieldAddr fa94_2 rfl rfl) ?_
          refine TL_pure rfl rfl rfl rfl (op_load_one ag88 rfl rfl) ?_
          obtain ⟨x118, hx118, hm⟩ := bindS hm
          refine TL_pure rfl rfl rfl rfl (op_indexT el88 rfl rfl hx118 rfl) ?_
          refine TL_pure rfl rfl rfl rfl (op_load_one ag87 rfl rfl) ?_
          refine TL_pure rfl rfl rfl rfl (op_move rfl) ?_
          refine TL_pure rfl rfl rfl rfl (op_buildP pl161 z161 rfl rfl rfl rfl rfl) ?_
          refine TL_box 4093 rfl rfl rfl rfl rfl rfl rfl ?_
          refine TL_freezeB 4093 (by rw [hF]; rfl) rfl rfl rfl rfl ?_
          refine TL_nilAt 122 (x' := .cp [a_Ptree (.nil : Ptree), .int .i64 r67, a_Prest (.nil : Prest)]) rfl (⟨_, rfl, ⟨_, _, rfl, .inr rfl, ⟨_, _, rfl, rfl, ⟨_, _, rfl, .inr rfl, rfl⟩⟩⟩⟩) rfl ?_
          refine TL_trAt 122 (x' := a_Prest (re_rest (rest.mk (.nil : Ptree) r67 (.nil : Prest)))) rfl (TrR_fold (re_rest_eq (rest.mk (.nil : Ptree) r67 (.nil : Prest)))) rfl ?_
          obtain ⟨r123, hr123, hm⟩ := bindS hm
          refine TL_call [(0, 0), (1, 1), (2, 2), (3, 3), (4, 4)] [] [2, 3, 4] (hrec_impl_plan_find (plan.mk (gather.mk p0.gather.post (p0.gather.starts ++ [o7.Stmt.Facts]) p0.gather.paths p0.gather.conds p0.gather.failed) p0.body (p0.loops ++ [p1]) (p0.behind ++ [p2]) (mput p0.number o7.at_ r67)) x118 (re_rest (rest.mk (.nil : Ptree) r67 (.nil : Prest))) r123 hr123) Try.call76 rfl rfl rfl rfl rfl ⟨rfl, rfl, rfl, rfl, rfl, trivial⟩ rfl rfl rfl rfl rfl rfl rfl rfl rfl rfl rfl ?_
          refine TL_keepH [] [0, 1, 2, 3, 4] rfl rfl rfl rfl (by rw [hF]; rfl) ?_
          refine TL_nil ?_
          obtain rfl := someI hm
          refine ⟨[], [0, 1, 2, 3, 4], trivial, ?_, rfl, rfl, rfl, rfl⟩
          rfl
        · refine T_drawZ [11, 12, 16] mix (by kernel_rfl) rfl ?_
          obtain ⟨q109, hq109, hm⟩ := bindS hm
          refine TZ_pure 0 (by kernel_rfl) rfl rfl rfl rfl rfl (op_move rfl) ?_
          refine TZ_pure 1 (by kernel_rfl) rfl rfl rfl rfl rfl (op_move rfl) ?_
          refine TZ_pure 2 (by kernel_rfl) rfl rfl rfl rfl rfl (op_nilCheck rfl rfl) ?_
          refine TZ_pure 3 (by kernel_rfl) rfl rfl rfl rfl rfl (op_fieldAddr fa92_0 rfl rfl) ?_
          refine TZ_pure 4 (by kernel_rfl) rfl rfl rfl rfl rfl (op_fieldAddr fa86_1 rfl rfl) ?_
          refine TZ_pure 6 (by kernel_rfl) rfl rfl rfl rfl rfl (op_move rfl) ?_
          refine TZ_trAt 103 (x' := .cp [.int .i64 o7.Stmt.Kind, .int .i64 o7.Stmt.Var, .int .i64 o7.Stmt.Event, .int .i64 o7.Stmt.Sum.Const, .sl 1 (List.map a_i64 o7.Stmt.Sum.Coeffs), .int .i64 o7.Stmt.Index.Const, .sl 1 (List.map a_i64 o7.Stmt.Index.Coeffs), .sl 2 (List.map a_Term o7.Stmt.Facts), .int .i64 o7.at_, .sl 1 (List.map a_Ptree o7.kids)]) rfl (TrR_open (un_tree_eq ho7)) rfl ?_
          refine TZ_pure 7 (by kernel_rfl) rfl rfl rfl rfl rfl (op_nilCheck rfl rfl) ?_
          refine TZ_pure 8 (by kernel_rfl) rfl rfl rfl rfl rfl (op_fieldAddrC (n := 8) fa94_0 rfl rfl rfl) ?_
          refine TZ_pure 9 (by kernel_rfl) rfl rfl rfl rfl rfl (op_fieldAddr fa69_5 rfl rfl) ?_
          refine TZ_cut 7 [true, true, true, true, true, true, true, true, true, true, false, false, false, false, false, false, false] ⟨[(0, .ptr 0 0 0), (1, a_Ptree p1), (2, a_Prest p2), (6, .int .i64 r67), (7, .cp [.int .i64 o7.Stmt.Kind, .int .i64 o7.Stmt.Var, .int .i64 o7.Stmt.Event, .int .i64 o7.Stmt.Sum.Const, .sl 1 (List.map a_i64 o7.Stmt.Sum.Coeffs), .int .i64 o7.Stmt.Index.Const, .sl 1 (List.map a_i64 o7.Stmt.Index.Coeffs), .sl 2 (List.map a_Term o7.Stmt.Facts), .int .i64 o7.at_, .sl 1 (List.map a_Ptree o7.kids)]), (8, .cp [.int .i64 o7.Stmt.Kind, .int .i64 o7.Stmt.Var, .int .i64 o7.Stmt.Event, .int .i64 o7.Stmt.Sum.Const, .sl 1 (List.map a_i64 o7.Stmt.Sum.Coeffs), .int .i64 o7.Stmt.Index.Const, .sl 1 (List.map a_i64 o7.Stmt.Index.Coeffs), .sl 2 (List.map a_Term o7.Stmt.Facts), .int .i64 o7.at_, .sl 1 (List.map a_Ptree o7.kids)]), (9, .cp [.int .i64 o7.Stmt.Kind, .int .i64 o7.Stmt.Var, .int .i64 o7.Stmt.Event, .int .i64 o7.Stmt.Sum.Const, .sl 1 (List.map a_i64 o7.Stmt.Sum.Coeffs), .int .i64 o7.Stmt.Index.Const, .sl 1 (List.map a_i64 o7.Stmt.Index.Coeffs), .sl 2 (List.map a_Term o7.Stmt.Facts)]), (10, .cp [.int .i64 o7.Stmt.Kind]), (11, .int .i64 o7.Stmt.Kind), (12, .bool (decide (o7.Stmt.Kind = (1 : Int)))), (13, .bool (decide (o7.Stmt.Kind = (1 : Int)))), (40, .bool (decide (o7.Stmt.Kind = (7 : Int)))), (41, .bool (decide (o7.Stmt.Kind = (7 : Int)))), (60, .bool (decide (o7.Stmt.Kind = (8 : Int)))), (61, .bool (decide (o7.Stmt.Kind = (8 : Int)))), (62, .ptr 0 0 0), (63, .ptr 0 0 0), (64, .ptr 0 0 6), (65, .junk), (66, .int .i64 (p0.loops.length : Int)), (67, .int .i64 r67), (68, .ptr 0 0 0), (69, .ptr 0 0 0), (70, .ptr 0 0 8), (71, .mp 1), (72, .cp [.int .i64 o7.Stmt.Kind, .int .i64 o7.Stmt.Var, .int .i64 o7.Stmt.Event, .int .i64 o7.Stmt.Sum.Const, .sl 1 (List.map a_i64 o7.Stmt.Sum.Coeffs), .int .i64 o7.Stmt.Index.Const, .sl 1 (List.map a_i64 o7.Stmt.Index.Coeffs), .sl 2 (List.map a_Term o7.Stmt.Facts), .int .i64 o7.at_, .sl 1 (List.map a_Ptree o7.kids)]), (73, .cp [.int .i64 o7.Stmt.Kind, .int .i64 o7.Stmt.Var, .int .i64 o7.Stmt.Event, .int .i64 o7.Stmt.Sum.Const, .sl 1 (List.map a_i64 o7.Stmt.Sum.Coeffs), .int .i64 o7.Stmt.Index.Const, .sl 1 (List.map a_i64 o7.Stmt.Index.Coeffs), .sl 2 (List.map a_Term o7.Stmt.Facts), .int .i64 o7.at_, .sl 1 (List.map a_Ptree o7.kids)]), (74, .cp [.int .i64 o7.at_]), (75, .int .i64 o7.at_), (76, .int .i64 r67), (77, .ptr 0 0 0), (78, .ptr 0 0 0), (79, .ptr 0 0 0), (80, .ptr 0 0 6), (81, .junk), (82, a_Ptree p1), (83, .ow 2731), (84, .ow 3), (85, .ptr 0 0 0), (86, .ptr 0 0 6), (87, .ptr 0 0 0), (88, .ptr 0 0 0), (89, .ptr 0 0 0), (90, .ptr 0 0 7), (91, .junk), (92, a_Prest p2), (93, .ow 2732), (94, .ow 4), (95, .ptr 0 0 0), (96, .ptr 0 0 7), (97, .ptr 0 0 0), (98, .ptr 0 0 0), (99, .ptr 0 0 0), (100, .ptr 0 0 0), (101, .ptr 0 0 1), (102, .ow 2), (103, .cp [.int .i64 o7.Stmt.Kind, .int .i64 o7.Stmt.Var, .int .i64 o7.Stmt.Event, .int .i64 o7.Stmt.Sum.Const, .sl 1 (List.map a_i64 o7.Stmt.Sum.Coeffs), .int .i64 o7.Stmt.Index.Const, .sl 1 (List.map a_i64 o7.Stmt.Index.Coeffs), .sl 2 (List.map a_Term o7.Stmt.Facts), .int .i64 o7.at_, .sl 1 (List.map a_Ptree o7.kids)]), (104, .cp [.int .i64 o7.Stmt.Kind, .int .i64 o7.Stmt.Var, .int .i64 o7.Stmt.Event, .int .i64 o7.Stmt.Sum.Const, .sl 1 (List.map a_i64 o7.Stmt.Sum.Coeffs), .int .i64 o7.Stmt.Index.Const, .sl 1 (List.map a_i64 o7.Stmt.Index.Coeffs), .sl 2 (List.map a_Term o7.Stmt.Facts), .int .i64 o7.at_, .sl 1 (List.map a_Ptree o7.kids)]), (105, .cp [.int .i64 o7.Stmt.Kind, .int .i64 o7.Stmt.Var, .int .i64 o7.Stmt.Event, .int .i64 o7.Stmt.Sum.Const, .sl 1 (List.map a_i64 o7.Stmt.Sum.Coeffs), .int .i64 o7.Stmt.Index.Const, .sl 1 (List.map a_i64 o7.Stmt.Index.Coeffs), .sl 2 (List.map a_Term o7.Stmt.Facts)]), (106, .cp [.sl 2 (List.map a_Term o7.Stmt.Facts)])], [(0, .box [.sl 2 (List.map a_Term p0.gather.post), .ow 2, .sl 5 (List.map a_Path p0.gather.paths), .sl 3 (List.map a_Sequent p0.gather.conds), .bool p0.gather.failed, a_Ptree p0.body, .ow 3, .ow 4, .mp 1]), (1, .box (.tr (.tup (List.map aMa_i64a_i64 (mput p0.number o7.at_ r67))) :: jk)), (2, .arr ⟨false, false⟩ 1 30 (List.map aLa_Term p0.gather.starts)), (3, .arr ⟨false, false⟩ 1 87 (List.map a_Ptree (p0.loops ++ [p1]))), (4, .arr ⟨false, false⟩ 1 159 (List.map a_Prest (p0.behind ++ [p2]))), (2731, .arr ⟨false, false⟩ 1 87 (List.map a_Ptree [p1])), (2732, .arr ⟨false, false⟩ 1 159 (List.map a_Prest [p2]))]⟩ ?_ (fun hS4093_0 => ?_)
          · refine TZ_one 10 (by kernel_rfl) rfl ?_
            refine TL_pure rfl rfl rfl rfl (op_load_one ag30 rfl rfl) ?_
            refine TL_nil ?_
            refine TZ_one 11 (by kernel_rfl) rfl ?_
            refine TL_buildSlice 5054 (es := List.map aLa_Term [o7.Stmt.Facts]) el82 z30 rfl rfl rfl rfl rfl rfl rfl rfl rfl ?_
            refine TL_nil ?_
            refine TZ_one 12 (by kernel_rfl) rfl ?_
            refine TL_appendT (f := aLa_Term) (a := p0.gather.starts) (b := [o7.Stmt.Facts]) el82 z30 rfl rfl rfl rfl rfl rfl rfl (capI_spec hq109) rfl rfl rfl rfl rfl ?_
            refine TL_nil ?_
            refine TZ_pure 13 (by kernel_rfl) rfl rfl rfl rfl rfl (op_nilCheck rfl rfl) ?_
            refine TZ_pure 14 (by kernel_rfl) rfl rfl rfl rfl rfl (op_fieldAddr fa92_0 rfl rfl) ?_
            refine TZ_pure 15 (by kernel_rfl) rfl rfl rfl rfl rfl (op_fieldAddr fa86_1 rfl rfl) ?_
            refine TZ_one 16 (by kernel_rfl) rfl ?_
            refine TL_store_box sz82 rfl rfl rfl rfl rfl rfl rfl rfl rfl ?_
            refine TL_nil ?_
            refine TZ_done (by kernel_rfl) ?_
            refine T_keepH [0, 1, 6] [0, 1, 2, 3, 4] rfl rfl rfl rfl (by rw [hF]; rfl) ?_
            exact hj1 () hm
          refine TZ_cut 6 [true, true, true, true, true, true, true, true, true, true, true, false, false, false, false, false, false] ⟨[(0, .ptr 0 0 0), (1, a_Ptree p1), (2, a_Prest p2), (6, .int .i64 r67), (7, .cp [.int .i64 o7.Stmt.Kind, .int .i64 o7.Stmt.Var, .int .i64 o7.Stmt.Event, .int .i64 o7.Stmt.Sum.Const, .sl 1 (List.map a_i64 o7.Stmt.Sum.Coeffs), .int .i64 o7.Stmt.Index.Const, .sl 1 (List.map a_i64 o7.Stmt.Index.Coeffs), .sl 2 (List.map a_Term o7.Stmt.Facts), .int .i64 o7.at_, .sl 1 (List.map a_Ptree o7.kids)]), (8, .cp [.int .i64 o7.Stmt.Kind, .int .i64 o7.Stmt.Var, .int .i64 o7.Stmt.Event, .int .i64 o7.Stmt.Sum.Const, .sl 1 (List.map a_i64 o7.Stmt.Sum.Coeffs), .int .i64 o7.Stmt.Index.Const, .sl 1 (List.map a_i64 o7.Stmt.Index.Coeffs), .sl 2 (List.map a_Term o7.Stmt.Facts), .int .i64 o7.at_, .sl 1 (List.map a_Ptree o7.kids)]), (9, .cp [.int .i64 o7.Stmt.Kind, .int .i64 o7.Stmt.Var, .int .i64 o7.Stmt.Event, .int .i64 o7.Stmt.Sum.Const, .sl 1 (List.map a_i64 o7.Stmt.Sum.Coeffs), .int .i64 o7.Stmt.Index.Const, .sl 1 (List.map a_i64 o7.Stmt.Index.Coeffs), .sl 2 (List.map a_Term o7.Stmt.Facts)]), (10, .cp [.int .i64 o7.Stmt.Kind]), (11, .int .i64 o7.Stmt.Kind), (12, .bool (decide (o7.Stmt.Kind = (1 : Int)))), (13, .bool (decide (o7.Stmt.Kind = (1 : Int)))), (40, .bool (decide (o7.Stmt.Kind = (7 : Int)))), (41, .bool (decide (o7.Stmt.Kind = (7 : Int)))), (60, .bool (decide (o7.Stmt.Kind = (8 : Int)))), (61, .bool (decide (o7.Stmt.Kind = (8 : Int)))), (62, .ptr 0 0 0), (63, .ptr 0 0 0), (64, .ptr 0 0 6), (65, .junk), (66, .int .i64 (p0.loops.length : Int)), (67, .int .i64 r67), (68, .ptr 0 0 0), (69, .ptr 0 0 0), (70, .ptr 0 0 8), (71, .mp 1), (72, .cp [.int .i64 o7.Stmt.Kind, .int .i64 o7.Stmt.Var, .int .i64 o7.Stmt.Event, .int .i64 o7.Stmt.Sum.Const, .sl 1 (List.map a_i64 o7.Stmt.Sum.Coeffs), .int .i64 o7.Stmt.Index.Const, .sl 1 (List.map a_i64 o7.Stmt.Index.Coeffs), .sl 2 (List.map a_Term o7.Stmt.Facts), .int .i64 o7.at_, .sl 1 (List.map a_Ptree o7.kids)]), (73, .cp [.int .i64 o7.Stmt.Kind, .int .i64 o7.Stmt.Var, .int .i64 o7.Stmt.Event, .int .i64 o7.Stmt.Sum.Const, .sl 1 (List.map a_i64 o7.Stmt.Sum.Coeffs), .int .i64 o7.Stmt.Index.Const, .sl 1 (List.map a_i64 o7.Stmt.Index.Coeffs), .sl 2 (List.map a_Term o7.Stmt.Facts), .int .i64 o7.at_, .sl 1 (List.map a_Ptree o7.kids)]), (74, .cp [.int .i64 o7.at_]), (75, .int .i64 o7.at_), (76, .int .i64 r67), (77, .ptr 0 0 0), (78, .ptr 0 0 0), (79, .ptr 0 0 0), (80, .ptr 0 0 6), (81, .junk), (82, a_Ptree p1), (83, .ow 2731), (84, .ow 3), (85, .ptr 0 0 0), (86, .ptr 0 0 6), (87, .ptr 0 0 0), (88, .ptr 0 0 0), (89, .ptr 0 0 0), (90, .ptr 0 0 7), (91, .junk), (92, a_Prest p2), (93, .ow 2732), (94, .ow 4), (95, .ptr 0 0 0), (96, .ptr 0 0 7), (97, .ptr 0 0 0), (98, .ptr 0 0 0), (99, .ptr 0 0 0), (100, .ptr 0 0 0), (101, .ptr 0 0 1), (102, .ow 2), (103, .cp [.int .i64 o7.Stmt.Kind, .int .i64 o7.Stmt.Var, .int .i64 o7.Stmt.Event, .int .i64 o7.Stmt.Sum.Const, .sl 1 (List.map a_i64 o7.Stmt.Sum.Coeffs), .int .i64 o7.Stmt.Index.Const, .sl 1 (List.map a_i64 o7.Stmt.Index.Coeffs), .sl 2 (List.map a_Term o7.Stmt.Facts), .int .i64 o7.at_, .sl 1 (List.map a_Ptree o7.kids)]), (104, .cp [.int .i64 o7.Stmt.Kind, .int .i64 o7.Stmt.Var, .int .i64 o7.Stmt.Event, .int .i64 o7.Stmt.Sum.Const, .sl 1 (List.map a_i64 o7.Stmt.Sum.Coeffs), .int .i64 o7.Stmt.Index.Const, .sl 1 (List.map a_i64 o7.Stmt.Index.Coeffs), .sl 2 (List.map a_Term o7.Stmt.Facts), .int .i64 o7.at_, .sl 1 (List.map a_Ptree o7.kids)]), (105, .cp [.int .i64 o7.Stmt.Kind, .int .i64 o7.Stmt.Var, .int .i64 o7.Stmt.Event, .int .i64 o7.Stmt.Sum.Const, .sl 1 (List.map a_i64 o7.Stmt.Sum.Coeffs), .int .i64 o7.Stmt.Index.Const, .sl 1 (List.map a_i64 o7.Stmt.Index.Coeffs), .sl 2 (List.map a_Term o7.Stmt.Facts)]), (106, .cp [.sl 2 (List.map a_Term o7.Stmt.Facts)]), (107, .sl 2 (List.map a_Term o7.Stmt.Facts))], [(0, .box [.sl 2 (List.map a_Term p0.gather.post), .ow 2, .sl 5 (List.map a_Path p0.gather.paths), .sl 3 (List.map a_Sequent p0.gather.conds), .bool p0.gather.failed, a_Ptree p0.body, .ow 3, .ow 4, .mp 1]), (1, .box (.tr (.tup (List.map aMa_i64a_i64 (mput p0.number o7.at_ r67))) :: jk)), (2, .arr ⟨false, false⟩ 1 30 (List.map aLa_Term p0.gather.starts)), (3, .arr ⟨false, false⟩ 1 87 (List.map a_Ptree (p0.loops ++ [p1]))), (4, .arr ⟨false, false⟩ 1 159 (List.map a_Prest (p0.behind ++ [p2]))), (2731, .arr ⟨false, false⟩ 1 87 (List.map a_Ptree [p1])), (2732, .arr ⟨false, false⟩ 1 159 (List.map a_Prest [p2]))]⟩ ?_ (fun hS4093_1 => ?_)
          · refine TZ_one 11 (by kernel_rfl) rfl ?_
            refine TL_buildSlice 5054 (es := List.map aLa_Term [o7.Stmt.Facts]) el82 z30 rfl rfl rfl rfl rfl rfl rfl rfl rfl ?_
            refine TL_nil ?_
            refine TZ_one 12 (by kernel_rfl) rfl ?_
            refine TL_appendT (f := aLa_Term) (a := p0.gather.starts) (b := [o7.Stmt.Facts]) el82 z30 rfl rfl rfl rfl rfl rfl rfl (capI_spec hq109) rfl rfl rfl rfl rfl ?_
            refine TL_nil ?_
            refine TZ_pure 13 (by kernel_rfl) rfl rfl rfl rfl rfl (op_nilCheck rfl rfl) ?_
            refine TZ_pure 14 (by kernel_rfl) rfl rfl rfl rfl rfl (op_fieldAddr fa92_0 rfl rfl) ?_
            refine TZ_pure 15 (by kernel_rfl) rfl rfl rfl rfl rfl (op_fieldAddr fa86_1 rfl rfl) ?_
            refine TZ_one 16 (by kernel_rfl) rfl ?_
            refine TL_store_box sz82 rfl rfl rfl rfl rfl rfl rfl rfl rfl ?_
            refine TL_nil ?_
            refine TZ_done (by kernel_rfl) ?_
            refine T_keepH [0, 1, 6] [0, 1, 2, 3, 4] rfl rfl rfl rfl (by rw [hF]; rfl) ?_
            exact hj1 () hm
          refine TZ_cut 6 [true, true, true, true, true, false, true, true, true, true, true, true, false, false, false, false, false] ⟨[(0, .ptr 0 0 0), (1, a_Ptree p1), (2, a_Prest p2), (6, .int .i64 r67), (7, .cp [.int .i64 o7.Stmt.Kind, .int .i64 o7.Stmt.Var, .int .i64 o7.Stmt.Event, .int .i64 o7.Stmt.Sum.Const, .sl 1 (List.map a_i64 o7.Stmt.Sum.Coeffs), .int .i64 o7.Stmt.Index.Const, .sl 1 (List.map a_i64 o7.Stmt.Index.Coeffs), .sl 2 (List.map a_Term o7.Stmt.Facts), .int .i64 o7.at_, .sl 1 (List.map a_Ptree o7.kids)]), (8, .cp [.int .i64 o7.Stmt.Kind, .int .i64 o7.Stmt.Var, .int .i64 o7.Stmt.Event, .int .i64 o7.Stmt.Sum.Const, .sl 1 (List.map a_i64 o7.Stmt.Sum.Coeffs), .int .i64 o7.Stmt.Index.Const, .sl 1 (List.map a_i64 o7.Stmt.Index.Coeffs), .sl 2 (List.map a_Term o7.Stmt.Facts), .int .i64 o7.at_, .sl 1 (List.map a_Ptree o7.kids)]), (9, .cp [.int .i64 o7.Stmt.Kind, .int .i64 o7.Stmt.Var, .int .i64 o7.Stmt.Event, .int .i64 o7.Stmt.Sum.Const, .sl 1 (List.map a_i64 o7.Stmt.Sum.Coeffs), .int .i64 o7.Stmt.Index.Const, .sl 1 (List.map a_i64 o7.Stmt.Index.Coeffs), .sl 2 (List.map a_Term o7.Stmt.Facts)]), (10, .cp [.int .i64 o7.Stmt.Kind]), (11, .int .i64 o7.Stmt.Kind), (12, .bool (decide (o7.Stmt.Kind = (1 : Int)))), (13, .bool (decide (o7.Stmt.Kind = (1 : Int)))), (40, .bool (decide (o7.Stmt.Kind = (7 : Int)))), (41, .bool (decide (o7.Stmt.Kind = (7 : Int)))), (60, .bool (decide (o7.Stmt.Kind = (8 : Int)))), (61, .bool (decide (o7.Stmt.Kind = (8 : Int)))), (62, .ptr 0 0 0), (63, .ptr 0 0 0), (64, .ptr 0 0 6), (65, .junk), (66, .int .i64 (p0.loops.length : Int)), (67, .int .i64 r67), (68, .ptr 0 0 0), (69, .ptr 0 0 0), (70, .ptr 0 0 8), (71, .mp 1), (72, .cp [.int .i64 o7.Stmt.Kind, .int .i64 o7.Stmt.Var, .int .i64 o7.Stmt.Event, .int .i64 o7.Stmt.Sum.Const, .sl 1 (List.map a_i64 o7.Stmt.Sum.Coeffs), .int .i64 o7.Stmt.Index.Const, .sl 1 (List.map a_i64 o7.Stmt.Index.Coeffs), .sl 2 (List.map a_Term o7.Stmt.Facts), .int .i64 o7.at_, .sl 1 (List.map a_Ptree o7.kids)]), (73, .cp [.int .i64 o7.Stmt.Kind, .int .i64 o7.Stmt.Var, .int .i64 o7.Stmt.Event, .int .i64 o7.Stmt.Sum.Const, .sl 1 (List.map a_i64 o7.Stmt.Sum.Coeffs), .int .i64 o7.Stmt.Index.Const, .sl 1 (List.map a_i64 o7.Stmt.Index.Coeffs), .sl 2 (List.map a_Term o7.Stmt.Facts), .int .i64 o7.at_, .sl 1 (List.map a_Ptree o7.kids)]), (74, .cp [.int .i64 o7.at_]), (75, .int .i64 o7.at_), (76, .int .i64 r67), (77, .ptr 0 0 0), (78, .ptr 0 0 0), (79, .ptr 0 0 0), (80, .ptr 0 0 6), (81, .junk), (82, a_Ptree p1), (83, .ow 2731), (84, .ow 3), (85, .ptr 0 0 0), (86, .ptr 0 0 6), (87, .ptr 0 0 0), (88, .ptr 0 0 0), (89, .ptr 0 0 0), (90, .ptr 0 0 7), (91, .junk), (92, a_Prest p2), (93, .ow 2732), (94, .ow 4), (95, .ptr 0 0 0), (96, .ptr 0 0 7), (97, .ptr 0 0 0), (98, .ptr 0 0 0), (99, .ptr 0 0 0), (100, .ptr 0 0 0), (101, .ptr 0 0 1), (103, .cp [.int .i64 o7.Stmt.Kind, .int .i64 o7.Stmt.Var, .int .i64 o7.Stmt.Event, .int .i64 o7.Stmt.Sum.Const, .sl 1 (List.map a_i64 o7.Stmt.Sum.Coeffs), .int .i64 o7.Stmt.Index.Const, .sl 1 (List.map a_i64 o7.Stmt.Index.Coeffs), .sl 2 (List.map a_Term o7.Stmt.Facts), .int .i64 o7.at_, .sl 1 (List.map a_Ptree o7.kids)]), (104, .cp [.int .i64 o7.Stmt.Kind, .int .i64 o7.Stmt.Var, .int .i64 o7.Stmt.Event, .int .i64 o7.Stmt.Sum.Const, .sl 1 (List.map a_i64 o7.Stmt.Sum.Coeffs), .int .i64 o7.Stmt.Index.Const, .sl 1 (List.map a_i64 o7.Stmt.Index.Coeffs), .sl 2 (List.map a_Term o7.Stmt.Facts), .int .i64 o7.at_, .sl 1 (List.map a_Ptree o7.kids)]), (105, .cp [.int .i64 o7.Stmt.Kind, .int .i64 o7.Stmt.Var, .int .i64 o7.Stmt.Event, .int .i64 o7.Stmt.Sum.Const, .sl 1 (List.map a_i64 o7.Stmt.Sum.Coeffs), .int .i64 o7.Stmt.Index.Const, .sl 1 (List.map a_i64 o7.Stmt.Index.Coeffs), .sl 2 (List.map a_Term o7.Stmt.Facts)]), (106, .cp [.sl 2 (List.map a_Term o7.Stmt.Facts)]), (107, .sl 2 (List.map a_Term o7.Stmt.Facts)), (108, .ow 5054)], [(0, .box [.sl 2 (List.map a_Term p0.gather.post), .ow 2, .sl 5 (List.map a_Path p0.gather.paths), .sl 3 (List.map a_Sequent p0.gather.conds), .bool p0.gather.failed, a_Ptree p0.body, .ow 3, .ow 4, .mp 1]), (1, .box (.tr (.tup (List.map aMa_i64a_i64 (mput p0.number o7.at_ r67))) :: jk)), (2, .arr ⟨false, false⟩ 1 30 (List.map aLa_Term p0.gather.starts)), (3, .arr ⟨false, false⟩ 1 87 (List.map a_Ptree (p0.loops ++ [p1]))), (4, .arr ⟨false, false⟩ 1 159 (List.map a_Prest (p0.behind ++ [p2]))), (2731, .arr ⟨false, false⟩ 1 87 (List.map a_Ptree [p1])), (2732, .arr ⟨false, false⟩ 1 159 (List.map a_Prest [p2])), (5054, .arr ⟨false, false⟩ 1 30 (List.map aLa_Term [o7.Stmt.Facts]))]⟩ ?_ (fun hS4093_2 => ?_)
          · refine TZ_pure 5 (by kernel_rfl) rfl rfl rfl rfl rfl (op_load_one ag82 rfl rfl) ?_
            refine TZ_one 12 (by kernel_rfl) rfl ?_
            refine TL_appendT (f := aLa_Term) (a := p0.gather.starts) (b := [o7.Stmt.Facts]) el82 z30 rfl rfl rfl rfl rfl rfl rfl (capI_spec hq109) rfl rfl rfl rfl rfl ?_
            refine TL_nil ?_
            refine TZ_pure 13 (by kernel_rfl) rfl rfl rfl rfl rfl (op_nilCheck rfl rfl) ?_
            refine TZ_pure 14 (by kernel_rfl) rfl rfl rfl rfl rfl (op_fieldAddr fa92_0 rfl rfl) ?_
            refine TZ_pure 15 (by kernel_rfl) rfl rfl rfl rfl rfl (op_fieldAddr fa86_1 rfl rfl) ?_
            refine TZ_one 16 (by kernel_rfl) rfl ?_
            refine TL_store_box sz82 rfl rfl rfl rfl rfl rfl rfl rfl rfl ?_
            refine TL_nil ?_
            refine TZ_done (by kernel_rfl) ?_
            refine T_keepH [0, 1, 6] [0, 1, 2, 3, 4] rfl rfl rfl rfl (by rw [hF]; rfl) ?_
            exact hj1 () hm
          refine TZ_cut 7 [true, true, true, true, true, false, true, true, true, true, true, false, false, false, false, false, false] ⟨[(0, .ptr 0 0 0), (1, a_Ptree p1), (2, a_Prest p2), (6, .int .i64 r67), (7, .cp [.int .i64 o7.Stmt.Kind, .int .i64 o7.Stmt.Var, .int .i64 o7.Stmt.Event, .int .i64 o7.Stmt.Sum.Const, .sl 1 (List.map a_i64 o7.Stmt.Sum.Coeffs), .int .i64 o7.Stmt.Index.Const, .sl 1 (List.map a_i64 o7.Stmt.Index.Coeffs), .sl 2 (List.map a_Term o7.Stmt.Facts), .int .i64 o7.at_, .sl 1 (List.map a_Ptree o7.kids)]), (8, .cp [.int .i64 o7.Stmt.Kind, .int .i64 o7.Stmt.Var, .int .i64 o7.Stmt.Event, .int .i64 o7.Stmt.Sum.Const, .sl 1 (List.map a_i64 o7.Stmt.Sum.Coeffs), .int .i64 o7.Stmt.Index.Const, .sl 1 (List.map a_i64 o7.Stmt.Index.Coeffs), .sl 2 (List.map a_Term o7.Stmt.Facts), .int .i64 o7.at_, .sl 1 (List.map a_Ptree o7.kids)]), (9, .cp [.int .i64 o7.Stmt.Kind, .int .i64 o7.Stmt.Var, .int .i64 o7.Stmt.Event, .int .i64 o7.Stmt.Sum.Const, .sl 1 (List.map a_i64 o7.Stmt.Sum.Coeffs), .int .i64 o7.Stmt.Index.Const, .sl 1 (List.map a_i64 o7.Stmt.Index.Coeffs), .sl 2 (List.map a_Term o7.Stmt.Facts)]), (10, .cp [.int .i64 o7.Stmt.Kind]), (11, .int .i64 o7.Stmt.Kind), (12, .bool (decide (o7.Stmt.Kind = (1 : Int)))), (13, .bool (decide (o7.Stmt.Kind = (1 : Int)))), (40, .bool (decide (o7.Stmt.Kind = (7 : Int)))), (41, .bool (decide (o7.Stmt.Kind = (7 : Int)))), (60, .bool (decide (o7.Stmt.Kind = (8 : Int)))), (61, .bool (decide (o7.Stmt.Kind = (8 : Int)))), (62, .ptr 0 0 0), (63, .ptr 0 0 0), (64, .ptr 0 0 6), (65, .junk), (66, .int .i64 (p0.loops.length : Int)), (67, .int .i64 r67), (68, .ptr 0 0 0), (69, .ptr 0 0 0), (70, .ptr 0 0 8), (71, .mp 1), (72, .cp [.int .i64 o7.Stmt.Kind, .int .i64 o7.Stmt.Var, .int .i64 o7.Stmt.Event, .int .i64 o7.Stmt.Sum.Const, .sl 1 (List.map a_i64 o7.Stmt.Sum.Coeffs), .int .i64 o7.Stmt.Index.Const, .sl 1 (List.map a_i64 o7.Stmt.Index.Coeffs), .sl 2 (List.map a_Term o7.Stmt.Facts), .int .i64 o7.at_, .sl 1 (List.map a_Ptree o7.kids)]), (73, .cp [.int .i64 o7.Stmt.Kind, .int .i64 o7.Stmt.Var, .int .i64 o7.Stmt.Event, .int .i64 o7.Stmt.Sum.Const, .sl 1 (List.map a_i64 o7.Stmt.Sum.Coeffs), .int .i64 o7.Stmt.Index.Const, .sl 1 (List.map a_i64 o7.Stmt.Index.Coeffs), .sl 2 (List.map a_Term o7.Stmt.Facts), .int .i64 o7.at_, .sl 1 (List.map a_Ptree o7.kids)]), (74, .cp [.int .i64 o7.at_]), (75, .int .i64 o7.at_), (76, .int .i64 r67), (77, .ptr 0 0 0), (78, .ptr 0 0 0), (79, .ptr 0 0 0), (80, .ptr 0 0 6), (81, .junk), (82, a_Ptree p1), (83, .ow 2731), (84, .ow 3), (85, .ptr 0 0 0), (86, .ptr 0 0 6), (87, .ptr 0 0 0), (88, .ptr 0 0 0), (89, .ptr 0 0 0), (90, .ptr 0 0 7), (91, .junk), (92, a_Prest p2), (93, .ow 2732), (94, .ow 4), (95, .ptr 0 0 0), (96, .ptr 0 0 7), (97, .ptr 0 0 0), (98, .ptr 0 0 0), (99, .ptr 0 0 0), (100, .ptr 0 0 0), (101, .ptr 0 0 1), (103, .cp [.int .i64 o7.Stmt.Kind, .int .i64 o7.Stmt.Var, .int .i64 o7.Stmt.Event, .int .i64 o7.Stmt.Sum.Const, .sl 1 (List.map a_i64 o7.Stmt.Sum.Coeffs), .int .i64 o7.Stmt.Index.Const, .sl 1 (List.map a_i64 o7.Stmt.Index.Coeffs), .sl 2 (List.map a_Term o7.Stmt.Facts), .int .i64 o7.at_, .sl 1 (List.map a_Ptree o7.kids)]), (104, .cp [.int .i64 o7.Stmt.Kind, .int .i64 o7.Stmt.Var, .int .i64 o7.Stmt.Event, .int .i64 o7.Stmt.Sum.Const, .sl 1 (List.map a_i64 o7.Stmt.Sum.Coeffs), .int .i64 o7.Stmt.Index.Const, .sl 1 (List.map a_i64 o7.Stmt.Index.Coeffs), .sl 2 (List.map a_Term o7.Stmt.Facts), .int .i64 o7.at_, .sl 1 (List.map a_Ptree o7.kids)]), (105, .cp [.int .i64 o7.Stmt.Kind, .int .i64 o7.Stmt.Var, .int .i64 o7.Stmt.Event, .int .i64 o7.Stmt.Sum.Const, .sl 1 (List.map a_i64 o7.Stmt.Sum.Coeffs), .int .i64 o7.Stmt.Index.Const, .sl 1 (List.map a_i64 o7.Stmt.Index.Coeffs), .sl 2 (List.map a_Term o7.Stmt.Facts)]), (106, .cp [.sl 2 (List.map a_Term o7.Stmt.Facts)]), (107, .sl 2 (List.map a_Term o7.Stmt.Facts))], [(0, .box [.sl 2 (List.map a_Term p0.gather.post), .ow 2, .sl 5 (List.map a_Path p0.gather.paths), .sl 3 (List.map a_Sequent p0.gather.conds), .bool p0.gather.failed, a_Ptree p0.body, .ow 3, .ow 4, .mp 1]), (1, .box (.tr (.tup (List.map aMa_i64a_i64 (mput p0.number o7.at_ r67))) :: jk)), (2, .arr ⟨false, false⟩ 1 30 (List.map aLa_Term p0.gather.starts)), (3, .arr ⟨false, false⟩ 1 87 (List.map a_Ptree (p0.loops ++ [p1]))), (4, .arr ⟨false, false⟩ 1 159 (List.map a_Prest (p0.behind ++ [p2]))), (2731, .arr ⟨false, false⟩ 1 87 (List.map a_Ptree [p1])), (2732, .arr ⟨false, false⟩ 1 159 (List.map a_Prest [p2]))]⟩ ?_ (fun hS4093_3 => ?_)
          · refine TZ_each [5, 11] (by kernel_rfl) rfl ?_
            refine ⟨?_, ?_⟩
            · refine ⟨_, rfl, ?_⟩
              refine TL_pure rfl rfl rfl rfl (op_load_one ag82 rfl rfl) ?_
              refine TL_nil ?_
              refine TZ_keepH [0, 1, 2, 6, 7, 8, 9, 10, 11, 12, 13, 40, 41, 60, 61, 62, 63, 64, 65, 66, 67, 68, 69, 70, 71, 72, 73, 74, 75, 76, 77, 78, 79, 80, 81, 82, 83, 84, 85, 86, 87, 88, 89, 90, 91, 92, 93, 94, 95, 96, 97, 98, 99, 100, 101, 102, 103, 104, 105, 106, 107] [0, 1, 2, 3, 4, 2731, 2732] rfl rfl rfl rfl (by rw [hF]; rfl) ?_
              exact hS4093_1
            · refine ⟨_, rfl, ?_⟩
              refine TL_buildSlice 5054 (es := List.map aLa_Term [o7.Stmt.Facts]) el82 z30 rfl rfl rfl rfl rfl rfl rfl rfl rfl ?_
              refine TL_nil ?_
              refine TZ_keepH [0, 1, 2, 6, 7, 8, 9, 10, 11, 12, 13, 40, 41, 60, 61, 62, 63, 64, 65, 66, 67, 68, 69, 70, 71, 72, 73, 74, 75, 76, 77, 78, 79, 80, 81, 82, 83, 84, 85, 86, 87, 88, 89, 90, 91, 92, 93, 94, 95, 96, 97, 98, 99, 100, 101, 103, 104, 105, 106, 107, 108] [0, 1, 2, 3, 4, 2731, 2732, 5054] rfl rfl rfl rfl (by rw [hF]; rfl) ?_
              exact hS4093_2
          refine TZ_each [5, 10] (by kernel_rfl) rfl ?_
          refine ⟨?_, ?_⟩
          · refine ⟨_, rfl, ?_⟩
            refine TL_pure rfl rfl rfl rfl (op_load_one ag82 rfl rfl) ?_
            refine TL_nil ?_
            refine TZ_keepH [0, 1, 2, 6, 7, 8, 9, 10, 11, 12, 13, 40, 41, 60, 61, 62, 63, 64, 65, 66, 67, 68, 69, 70, 71, 72, 73, 74, 75, 76, 77, 78, 79, 80, 81, 82, 83, 84, 85, 86, 87, 88, 89, 90, 91, 92, 93, 94, 95, 96, 97, 98, 99, 100, 101, 102, 103, 104, 105, 106] [0, 1, 2, 3, 4, 2731, 2732] rfl rfl rfl rfl (by rw [hF]; rfl) ?_
            exact hS4093_0
          · refine ⟨_, rfl, ?_⟩
            refine TL_pure rfl rfl rfl rfl (op_load_one ag30 rfl rfl) ?_
            refine TL_nil ?_
            refine TZ_keepH [0, 1, 2, 6, 7, 8, 9, 10, 11, 12, 13, 40, 41, 60, 61, 62, 63, 64, 65, 66, 67, 68, 69, 70, 71, 72, 73, 74, 75, 76, 77, 78, 79, 80, 81, 82, 83, 84, 85, 86, 87, 88, 89, 90, 91, 92, 93, 94, 95, 96, 97, 98, 99, 100, 101, 103, 104, 105, 106, 107] [0, 1, 2, 3, 4, 2731, 2732] rfl rfl rfl rfl (by rw [hF]; rfl) ?_
            exact hS4093_3
      · replace hm := condF hq hm
        refine T_keepH [] [0, 1, 2, 3, 4] rfl rfl rfl rfl (by rw [hF]; rfl) ?_
        refine T_skip ?_
        obtain rfl := someI hm
        refine ⟨[], [0, 1, 2, 3, 4], trivial, ?_, rfl, rfl, rfl, rfl⟩
        rfl
theorem c_impl_plan_find : ∀ (n : Nat) (p0 : plan) (p1 : Ptree) (p2 : Prest) (out : plan), m_impl_plan_find n p0 p1 p2 = some out → ACall Try.prog 76 [.ptr 0 0 0, a_Ptree p1, a_Prest p2] [(0, .box [.sl 2 (List.map a_Term p0.gather.post), .ow 2, .sl 5 (List.map a_Path p0.gather.paths), .sl 3 (List.map a_Sequent p0.gather.conds), .bool p0.gather.failed, a_Ptree p0.body, .ow 3, .ow 4, .mp 1]), (1, .box (.tr (.tup (List.map aMa_i64a_i64 p0.number)) :: jk)), (2, .arr ⟨false, false⟩ 1 30 (List.map aLa_Term p0.gather.starts)), (3, .arr ⟨false, false⟩ 1 87 (List.map a_Ptree p0.loops)), (4, .arr ⟨false, false⟩ 1 159 (List.map a_Prest p0.behind))] (.tup []) [(0, .box [.sl 2 (List.map a_Term out.gather.post), .ow 2, .sl 5 (List.map a_Path out.gather.paths), .sl 3 (List.map a_Sequent out.gather.conds), .bool out.gather.failed, a_Ptree out.body, .ow 3, .ow 4, .mp 1]), (1, .box (.tr (.tup (List.map aMa_i64a_i64 out.number)) :: jk)), (2, .arr ⟨false, false⟩ 1 30 (List.map aLa_Term out.gather.starts)), (3, .arr ⟨false, false⟩ 1 87 (List.map a_Ptree out.loops)), (4, .arr ⟨false, false⟩ 1 159 (List.map a_Prest out.behind))] := by
  intro n
  induction n with
  | zero => intro p0 p1 p2 out hm; cases hm
  | succ n ih => intro p0 p1 p2 out hm; exact c_impl_plan_find_F (m_impl_plan_find n) ih p0 p1 p2 out hm
theorem c_impl_planOf (p0 : Program) (out : plan × Bool) (hm : m_impl_planOf p0 = some out) : ACall Try.prog 44 [.agg [.sl 2 (List.map a_Term p0.Pre), .sl 8 (List.map a_Stmt p0.Body), .sl 2 (List.map a_Term p0.Post)]] [] (bif out.2 then .tup [.ptr 1000 0 0, .bool true] else .tup [.nilp, .bool false]) (bif out.2 then [(1000, .box [.sl 2 (List.map a_Term out.1.gather.post), .sl 1 (List.map aLa_Term out.1.gather.starts), .sl 5 (List.map a_Path out.1.gather.paths), .sl 3 (List.map a_Sequent out.1.gather.conds), .bool out.1.gather.failed, a_Ptree out.1.body, .sl 1 (List.map a_Ptree out.1.loops), .sl 1 (List.map a_Prest out.1.behind), .junk])] else []) := by
  refine ACall.intro Try.func44 rfl Try.ntmps44 rfl (fun F hF => ?_)
  unfold m_impl_planOf at hm
  refine T_seq ?_
  refine T_region ?_
  refine TL_box 11 rfl rfl rfl rfl rfl rfl rfl ?_
  refine TL_pure rfl rfl rfl rfl (op_assign rfl) ?_
  refine TL_pure rfl rfl rfl rfl (op_assign rfl) ?_
  refine TL_nil ?_
  refine T_seq ?_
  refine T_seq ?_
  refine T_region ?_
  refine TL_pure rfl rfl rfl rfl (op_load_agg ag33 sz33 rfl rfl rfl) ?_
  obtain ⟨r8, hr8, hm⟩ := bindS hm
  refine TL_callF (c_impl_ValidProgram p0 r8 hr8) Try.call74 rfl rfl rfl rfl rfl ?_
  refine TL_pure rfl rfl rfl rfl (op_not rfl) ?_
  refine TL_nil ?_
  refine T_cond rfl (fun hq => ?_) (fun hq => ?_)
  · replace hm := condT hq hm
    refine T_seq ?_
    refine T_region ?_
    refine TL_pure rfl rfl rfl rfl (op_assign rfl) ?_
    refine TL_pure rfl rfl rfl rfl (op_assign rfl) ?_
    refine TL_nil ?_
    refine T_keepH [2, 3] [] rfl rfl rfl rfl (by rw [hF]; rfl) ?_
    refine T_ret ?_
    obtain rfl := someI hm
    refine ⟨[_, _], [], ⟨rfl, rfl, trivial⟩, ?_, rfl, rfl, rfl, rfl⟩
    rfl
  · replace hm := condF hq hm
    refine T_skip ?_
    refine T_seq ?_
    refine T_region ?_
    refine TL_pure rfl rfl rfl rfl (op_fieldAddr fa33_1 rfl rfl) ?_
    refine TL_pure rfl rfl rfl rfl (op_load_one ag31 rfl rfl) ?_
    obtain ⟨r13, hr13, hm⟩ := bindS hm
    refine TL_callT (c_impl_treeOf p0.Body r13 hr13) Try.call75 rfl rfl rfl rfl rfl ?_
    refine TL_pure rfl rfl rfl rfl (op_move rfl) ?_
    refine TL_pure rfl rfl rfl rfl (op_extract rfl rfl) ?_
    refine TL_pure rfl rfl rfl rfl (op_extract rfl rfl) ?_
    refine TL_pure rfl rfl rfl rfl (op_assign rfl) ?_
    refine TL_pure rfl rfl rfl rfl (op_assign rfl) ?_
    refine TL_nil ?_
    refine T_seq ?_
    refine T_region ?_
    refine TL_pure rfl rfl rfl rfl (op_fieldAddr fa33_2 rfl rfl) ?_
    refine TL_pure rfl rfl rfl rfl (op_load_one ag30 rfl rfl) ?_
    refine TL_pure rfl rfl rfl rfl (op_fieldAddr fa33_0 rfl rfl) ?_
    refine TL_pure rfl rfl rfl rfl (op_load_one ag30 rfl rfl) ?_
    refine TL_buildSlice 12 (es := List.map aLa_Term [p0.Pre]) el82 z30 rfl rfl rfl rfl rfl rfl rfl rfl rfl ?_
    refine TL_pure rfl rfl rfl rfl (op_buildP pl86 z86 rfl rfl rfl rfl rfl) ?_
    refine TL_pure rfl rfl rfl rfl (op_move rfl) ?_
    refine TL_makeMap (J := jk) 13 rfl rfl rfl rfl rfl rfl ?_
    refine TL_pure rfl rfl rfl rfl (op_buildP pl92 z92 rfl rfl rfl rfl rfl) ?_
    refine TL_box 14 rfl rfl rfl rfl rfl rfl rfl ?_
    refine TL_pure rfl rfl rfl rfl (op_assign rfl) ?_
    refine TL_nil ?_
    refine T_seq ?_
    refine T_region ?_
    refine TL_pure rfl rfl rfl rfl (op_move rfl) ?_
    refine TL_pure rfl rfl rfl rfl (op_move rfl) ?_
    refine TL_ownNilBox 14 6 15 ⟨false, false⟩ 87 rfl rfl rfl (sz := 1) rfl rfl rfl rfl ?_
    refine TL_ownNilBox 14 7 16 ⟨false, false⟩ 159 rfl rfl rfl (sz := 1) rfl rfl rfl rfl ?_
    refine TL_nilBox 14 (cs' := [.sl 2 (List.map a_Term p0.Post), .ow 12, .sl 5 (List.map a_Path ([] : List Path)), .sl 3 (List.map a_Sequent ([] : List Sequent)), .bool false, a_Ptree r13.1, .ow 15, .ow 16, .mp 13]) rfl (⟨_, _, rfl, rfl, ⟨_, _, rfl, rfl, ⟨_, _, rfl, .inr ⟨_, rfl⟩, ⟨_, _, rfl, .inr ⟨_, rfl⟩, ⟨_, _, rfl, rfl, ⟨_, _, rfl, rfl, ⟨_, _, rfl, rfl, ⟨_, _, rfl, rfl, ⟨_, _, rfl, rfl, rfl⟩⟩⟩⟩⟩⟩⟩⟩⟩) rfl ?_
    obtain ⟨r28, hr28, hm⟩ := bindS hm
    refine TL_call [(0, 14), (1, 13), (2, 12), (3, 15), (4, 16)] [] [12, 15, 16] (ACall.nil (ys := [.ptr 0 0 0, a_Ptree r13.1, .nilp]) (xs := [.ptr 0 0 0, a_Ptree r13.1, a_Prest (.nil : Prest)]) (c_impl_plan_find 1000 (plan.mk (gather.mk p0.Post [p0.Pre] ([] : List Path) ([] : List Sequent) false) r13.1 ([] : List Ptree) ([] : List Prest) ([] : List (Int × Int))) r13.1 (.nil : Prest) r28 hr28) (⟨_, _, rfl, NilR_refl _, ⟨_, _, rfl, rfl, ⟨_, _, rfl, .inr rfl, rfl⟩⟩⟩)) Try.call76 rfl rfl rfl rfl rfl ⟨rfl, rfl, rfl, rfl, rfl, trivial⟩ rfl rfl rfl rfl rfl rfl rfl rfl rfl rfl rfl ?_
    refine TL_nil ?_
    refine T_seq ?_
    refine T_region ?_
    refine TL_pure rfl rfl rfl rfl (op_move rfl) ?_
    refine TL_pure rfl rfl rfl rfl (op_assign rfl) ?_
    refine TL_pure rfl rfl rfl rfl (op_assign rfl) ?_
    refine TL_nil ?_
    refine T_junkBox 14 8 rfl rfl rfl ?_
    refine T_keepH [2, 3] [12, 14, 15, 16] rfl rfl rfl rfl (by rw [hF]; rfl) ?_
    refine T_freeze 12 (by rw [hF]; rfl) rfl rfl rfl ?_
    refine T_freeze 15 (by rw [hF]; rfl) rfl rfl rfl ?_
    refine T_freeze 16 (by rw [hF]; rfl) rfl rfl rfl ?_
    refine T_ren [(14, 1000)] rfl rfl rfl (by rw [hF]; rfl) ?_
    refine T_ret ?_
    obtain rfl := someI hm
    refine ⟨[_, _], [1000], ⟨rfl, rfl, trivial⟩, ?_, rfl, rfl, rfl, rfl⟩
    rfl
theorem c_impl_gather_isStart (p0 : gather) (p1 : Int) (out : Bool) (hm : m_impl_gather_isStart p0 p1 = some out) : ACall Try.prog 49 [.cp [.sl 2 (List.map a_Term p0.post), .sl 1 (List.map aLa_Term p0.starts), .sl 5 (List.map a_Path p0.paths), .sl 3 (List.map a_Sequent p0.conds), .bool p0.failed], .int .i64 p1] [] (.bool out) [] := by
  refine ACall.intro Try.func49 rfl Try.ntmps49 rfl (fun F hF => ?_)
  unfold m_impl_gather_isStart at hm
  refine T_seq ?_
  refine T_region ?_
  refine TL_pure rfl rfl rfl rfl (op_assign rfl) ?_
  refine TL_nil ?_
  refine T_seq ?_
  refine T_region ?_
  refine TL_pure rfl rfl rfl rfl (op_move rfl) ?_
  refine TL_pure rfl rfl rfl rfl (op_move rfl) ?_
  refine TL_pure rfl rfl rfl rfl (op_nilCheck rfl rfl) ?_
  refine TL_pure rfl rfl rfl rfl (op_fieldAddrC (n := 1) fa86_1 rfl rfl rfl) ?_
  refine TL_pure rfl rfl rfl rfl (op_load_one ag82 rfl rfl) ?_
  refine TL_pure rfl rfl rfl rfl (op_lenT Try.underlying82 rfl (List.length_map _)) ?_
  refine TL_fact (fun _ _ _ hr => RelP.slLen (i := 9) rfl hr) (fun hlen10 => ?_)
  rw [List.length_map] at hlen10
  obtain ⟨r11, hr11, hm⟩ := bindS hm
  refine TL_callF (c_impl_size (p0.starts.length : Int) r11 hr11) Try.call62 rfl rfl rfl rfl rfl ?_
  refine TL_pure rfl rfl rfl rfl (op_subW rfl rfl) ?_
  obtain ⟨r13, hr13, hm⟩ := bindS hm
  refine TL_callF (c_impl_within p1 (-1 : Int) (w64 (r11 - (2 : Int))) r13 hr13) Try.call63 rfl rfl rfl rfl rfl ?_
  refine TL_pure rfl rfl rfl rfl (op_assign rfl) ?_
  refine TL_nil ?_
  refine T_keepH [4] [] rfl rfl rfl rfl (by rw [hF]; rfl) ?_
  refine T_ret ?_
  obtain rfl := someI hm
  refine ⟨[_], [], ⟨rfl, trivial⟩, ?_, rfl, rfl, rfl, rfl⟩
  rfl
theorem c_impl_copyInts (p0 : List Int) (out : List Int) (hm : m_impl_copyInts p0 = some out) : ACall Try.prog 99 [.sl 1 (List.map a_i64 p0)] [] (.ow 1000) [(1000, .arr ⟨false, true⟩ 1 2 (List.map a_i64 out))] := by
  refine ACall.intro Try.func99 rfl Try.ntmps99 rfl (fun F hF => ?_)
  unfold m_impl_copyInts at hm
  refine T_seq ?_
  refine T_region ?_
  refine TL_pure rfl rfl rfl rfl (op_assign rfl) ?_
  refine TL_nil ?_
  refine T_seq ?_
  refine T_region ?_
  refine TL_buildSlice 11 (es := List.map a_i64 ([] : List Int)) el27 z2 rfl rfl rfl rfl rfl rfl rfl rfl rfl ?_
  refine TL_pure rfl rfl rfl rfl (op_move rfl) ?_
  obtain ⟨q5, hq5, hm⟩ := bindS hm
  refine TL_appendT (f := a_i64) (a := ([] : List Int)) (b := p0) el27 z2 rfl rfl rfl rfl rfl rfl rfl (capI_spec hq5) rfl rfl rfl rfl rfl ?_
  refine TL_pure rfl rfl rfl rfl (op_assign rfl) ?_
  refine TL_nil ?_
  refine T_keepH [2] [11] rfl rfl rfl rfl (by rw [hF]; rfl) ?_
  refine T_deepen 11 (p' := false) (List.map a_i64 (([] : List Int) ++ p0)) (by rw [hF]; rfl) rfl (ElR.map (f := a_i64) (g := a_i64) (fun _ => ⟨⟨rfl, rfl⟩, trivial⟩) (([] : List Int) ++ p0)) rfl rfl rfl ?_
  refine T_ren [(11, 1000)] rfl rfl rfl (by rw [hF]; rfl) ?_
  refine T_ret ?_
  obtain rfl := someI hm
  refine ⟨[_], [1000], ⟨rfl, trivial⟩, ?_, rfl, rfl, rfl, rfl⟩
  rfl
theorem c_impl_Term_own (p0 : Term) (out : Term) (hm : m_impl_Term_own p0 = some out) : ACall Try.prog 79 [.agg [.int .i64 p0.Const, .sl 1 (List.map a_i64 p0.Coeffs)]] [] (.agg [.int .i64 out.Const, .ow 1000]) [(1000, .arr ⟨false, true⟩ 1 2 (List.map a_i64 out.Coeffs))] := by
  refine ACall.intro Try.func79 rfl Try.ntmps79 rfl (fun F hF => ?_)
  unfold m_impl_Term_own at hm
  refine T_seq ?_
  refine T_region ?_
  refine TL_box 11 rfl rfl rfl rfl rfl rfl rfl ?_
  refine TL_alloc 12 z67 rfl rfl rfl rfl rfl rfl rfl ?_
  refine TL_nil ?_
  refine T_seq ?_
  refine T_drawZ [6] mix (by kernel_rfl) rfl ?_
  obtain ⟨r7, hr7, hm⟩ := bindS hm
  refine TZ_pure 0 (by kernel_rfl) rfl rfl rfl rfl rfl (op_fieldAddr fa67_0 rfl rfl) ?_
  refine TZ_pure 1 (by kernel_rfl) rfl rfl rfl rfl rfl (op_load_one ag2 rfl rfl) ?_
  refine TZ_pure 2 (by kernel_rfl) rfl rfl rfl rfl rfl (op_fieldAddr fa67_1 rfl rfl) ?_
  refine TZ_pure 3 (by kernel_rfl) rfl rfl rfl rfl rfl (op_load_one ag27 rfl rfl) ?_
  refine TZ_one 4 (by kernel_rfl) rfl ?_
  refine TL_callO [(1000, 14)] (c_impl_copyInts p0.Coeffs r7 hr7) Try.call99 rfl rfl rfl rfl rfl rfl rfl rfl rfl rfl rfl rfl rfl ?_
  refine TL_nil ?_
  refine TZ_pure 5 (by kernel_rfl) rfl rfl rfl rfl rfl (op_buildP pl67 z67 rfl rfl rfl rfl rfl) ?_
  refine TZ_one 6 (by kernel_rfl) rfl ?_
  refine TL_store_box sz67 rfl rfl rfl rfl rfl rfl rfl rfl rfl ?_
  refine TL_nil ?_
  refine TZ_done (by kernel_rfl) ?_
  refine T_keepH [2] [12, 14] rfl rfl rfl rfl (by rw [hF]; rfl) ?_
  refine T_ren [(12, 12), (14, 1000)] rfl rfl rfl (by rw [hF]; rfl) ?_
  refine T_ret ?_
  obtain rfl := someI hm
  refine ⟨[_], [1000], ⟨⟨_, _, rfl, rfl, .inr ⟨ag67, _, _, sz67, rfl, rfl⟩⟩, trivial⟩, ?_, rfl, rfl, rfl, rfl⟩
  rfl
theorem c_impl_ownTerms (p0 : List Term) (out : List Term) (hm : m_impl_ownTerms p0 = some out) : ACall Try.prog 50 [.sl 2 (List.map a_Term p0)] [] (.ow 1000) [(1000, .arr ⟨false, true⟩ 2 67 (List.map a_Term out))] := by
  refine ACall.intro Try.func50 rfl Try.ntmps50 rfl (fun F hF => ?_)
  unfold m_impl_ownTerms at hm
  refine T_seq ?_
  refine T_region ?_
  refine TL_pure rfl rfl rfl rfl (op_assign rfl) ?_
  refine TL_nil ?_
  refine T_seq ?_
  refine T_region ?_
  refine TL_pure rfl rfl rfl rfl (op_assign rfl) ?_
  refine TL_nil ?_
  refine T_seq ?_
  refine T_seq ?_
  refine T_region ?_
  refine TL_pure rfl rfl rfl rfl (op_move rfl) ?_
  refine TL_pure rfl rfl rfl rfl (op_lenT Try.underlying30 rfl (List.length_map _)) ?_
  refine TL_fact (fun _ _ _ hr => RelP.slLen (i := 6) rfl hr) (fun hlen7 => ?_)
  rw [List.length_map] at hlen7
  refine TL_pure rfl rfl rfl rfl (op_move rfl) ?_
  refine TL_nil ?_
  refine T_block ?_
  refine T_ownNil 3 21 ⟨false, true⟩ 67 rfl rfl (sz := 2) rfl rfl rfl ?_
  refine T_keepH [3, 6, 7, 8] [21] rfl rfl rfl rfl (by rw [hF]; rfl) ?_
  refine T_ren [(21, 70000)] rfl rfl rfl (by rw [hF]; rfl) ?_
  refine T_loop ?_
  obtain ⟨u0, hl0, hm⟩ := bindS hm
  refine TR_forL2 p0 (m_impl_ownTerms_L0) (fun (s0 : List Term) => s0) (fun n0 (s0 : List Term) => ⟨[(3, .ow 70000), (6, .sl 2 (List.map a_Term p0)), (7, .int .i64 (p0.length : Int)), (8, .int .i64 (n0 : Int))], [(70000, .arr ⟨false, true⟩ 2 67 (List.map a_Term s0))]⟩) (fun u0 => .exit 0) (fun u0 => ⟨[(3, .ow 70000)], [(70000, .arr ⟨false, true⟩ 2 67 (List.map a_Term u0))]⟩) (fun u0 => m_impl_ownTerms_A0 u0 = some out) hl0 hm (fun u0 hm => ?_) (fun hx0 s0 hm => ?_) (fun hx0 n0 x0 s0 c0 hxn0 hlt0 hm hc0 => ?_)
  · unfold m_impl_ownTerms_A0 at hm
    refine T_seq ?_
    refine T_region ?_
    refine TL_pure rfl rfl rfl rfl (op_move rfl) ?_
    refine TL_pure rfl rfl rfl rfl (op_assign rfl) ?_
    refine TL_nil ?_
    refine T_keepH [2] [70000] rfl rfl rfl rfl (by rw [hF]; rfl) ?_
    refine T_ren [(70000, 1000)] rfl rfl rfl (by rw [hF]; rfl) ?_
    refine T_ret ?_
    obtain rfl := someI hm
    refine ⟨[_], [1000], ⟨rfl, trivial⟩, ?_, rfl, rfl, rfl, rfl⟩
    rfl
  · refine T_seq ?_
    refine T_region ?_
    refine TL_pure rfl rfl rfl rfl (op_lss rfl rfl) ?_
    refine TL_nil ?_
    refine T_seq ?_
    refine T_if_false rfl (decide_eq_false (by simp)) ?_
    refine T_keepH [3] [70000] rfl rfl rfl rfl (by rw [hF]; rfl) ?_
    refine T_exit ?_
    exact hx0 s0 hm
  · unfold m_impl_ownTerms_L0 at hm
    refine T_seq ?_
    refine T_region ?_
    refine TL_pure rfl rfl rfl rfl (op_lss rfl rfl) ?_
    refine TL_nil ?_
    refine T_seq ?_
    refine T_if_true rfl (decide_eq_true (Int.ofNat_lt.2 hlt0)) ?_
    refine T_skip ?_
    refine T_seq ?_
    refine T_block ?_
    refine T_seq ?_
    refine T_region ?_
    refine TL_pure rfl rfl rfl rfl (op_index_sl el30 rfl rfl rfl (get_map hxn0) rfl) ?_
    refine TL_pure rfl rfl rfl rfl (op_load_agg ag67 sz67 rfl rfl rfl) ?_
    refine TL_alloc 18 z67 rfl rfl rfl rfl rfl rfl rfl ?_
    refine TL_store_box sz67 rfl rfl rfl rfl rfl rfl rfl rfl rfl ?_
    refine TL_nil ?_
    refine T_region ?_
    refine TL_pure rfl rfl rfl rfl (op_move rfl) ?_
    refine TL_pure rfl rfl rfl rfl (op_load_agg ag67 sz67 rfl rfl rfl) ?_
    obtain ⟨r14, hr14, hm⟩ := bindS hm
    refine TL_callO [(1000, 19)] (c_impl_Term_own x0 r14 hr14) Try.call79 rfl rfl rfl rfl rfl rfl rfl rfl rfl rfl rfl rfl rfl ?_
    refine TL_buildSliceD (ids := [19]) (es := List.map a_Term [r14]) 20 el30 z67 rfl rfl rfl rfl rfl rfl (by rw [hF]; intro j hj; simp only [List.mem_cons, List.not_mem_nil, or_false] at hj; rcases hj with rfl <;> rfl) rfl rfl rfl rfl rfl rfl ?_
    obtain ⟨q16, hq16, hm⟩ := bindS hm
    refine TL_appendDT (f := a_Term) (a := s0) (b := [r14]) el30 z67 rfl rfl rfl rfl rfl rfl rfl rfl (by rw [hF]; rfl) (capI_spec hq16) rfl rfl rfl rfl rfl ?_
    refine TL_pure rfl rfl rfl rfl (op_assign rfl) ?_
    refine TL_nil ?_
    refine T_region ?_
    refine TL_pure rfl rfl rfl rfl (op_addN rfl rfl (Nat.lt_of_lt_of_le hlt0 hlen7)) ?_
    refine TL_pure rfl rfl rfl rfl (op_move rfl) ?_
    refine TL_nil ?_
    refine TR_keepH [3, 6, 7, 8] [70000] rfl rfl rfl rfl (by rw [hF]; rfl) ?_
    obtain rfl := someI hm
    have hn := CtlOK_next hc0
    exact hn _ rfl
theorem c_impl_StartFacts (p0 : Program) (p1 : Int) (out : (List Term) × Bool) (hm : m_impl_StartFacts p0 p1 = some out) : ACall Try.prog 20 [.agg [.sl 2 (List.map a_Term p0.Pre), .sl 8 (List.map a_Stmt p0.Body), .sl 2 (List.map a_Term p0.Post)], .int .i64 p1] [] (.tup [.ow 1000, .bool out.2]) [(1000, .arr ⟨false, true⟩ 2 67 (List.map a_Term out.1))] := by
  refine ACall.intro Try.func20 rfl Try.ntmps20 rfl (fun F hF => ?_)
  unfold m_impl_StartFacts at hm
  refine T_seq ?_
  refine T_region ?_
  refine TL_box 11 rfl rfl rfl rfl rfl rfl rfl ?_
  refine TL_pure rfl rfl rfl rfl (op_assign rfl) ?_
  refine TL_pure rfl rfl rfl rfl (op_assign rfl) ?_
  refine TL_nil ?_
  refine T_seq ?_
  refine T_region ?_
  refine TL_pure rfl rfl rfl rfl (op_load_agg ag33 sz33 rfl rfl rfl) ?_
  obtain ⟨r10, hr10, hm⟩ := bindS hm
  rcases Bool.eq_false_or_eq_true r10.2 with hq | hq
  · replace hm := condT hq hm
    refine TLE_call [] [(1000, 12)] [] (by have hc := c_impl_planOf p0 r10 hr10; rw [hq] at hc; exact hc) (fun _ => rfl) Try.call44 rfl rfl rfl rfl rfl trivial rfl rfl rfl rfl rfl rfl rfl rfl rfl rfl rfl ?_
    refine TL_pure rfl rfl rfl rfl (op_move rfl) ?_
    refine TL_pure rfl rfl rfl rfl (op_extract rfl rfl) ?_
    refine TL_pure rfl rfl rfl rfl (op_extract rfl rfl) ?_
    refine TL_pure rfl rfl rfl rfl (op_assign rfl) ?_
    refine TL_pure rfl rfl rfl rfl (op_assign rfl) ?_
    refine TL_nil ?_
    refine T_seq ?_
    refine T_seq ?_
    refine T_region ?_
    refine TL_pure rfl rfl rfl rfl (op_move rfl) ?_
    refine TL_pure rfl rfl rfl rfl (op_not rfl) ?_
    refine TL_pure rfl rfl rfl rfl (op_move rfl) ?_
    refine TL_want rfl rfl ?_
    refine TL_pure rfl rfl rfl rfl (op_move rfl) ?_
    refine TL_want rfl rfl ?_
    refine TL_pure rfl rfl rfl rfl (op_nilCheck rfl rfl) ?_
    refine TL_want rfl rfl ?_
    refine TL_pure rfl rfl rfl rfl (op_fieldAddr fa92_0 rfl rfl) ?_
    refine TL_want rfl rfl ?_
    refine TL_pure rfl rfl rfl rfl (op_move rfl) ?_
    refine TL_want rfl rfl ?_
    obtain ⟨r20, hr20, hm⟩ := bindS hm
    refine TL_callF (ACall.front (ys := [.cp [.sl 2 (List.map a_Term r10.1.gather.post), .sl 1 (List.map aLa_Term r10.1.gather.starts), .sl 5 (List.map a_Path r10.1.gather.paths), .sl 3 (List.map a_Sequent r10.1.gather.conds), .bool r10.1.gather.failed, a_Ptree r10.1.body, .sl 1 (List.map a_Ptree r10.1.loops), .sl 1 (List.map a_Prest r10.1.behind), .junk], .int .i64 p1]) (xs := [.cp [.sl 2 (List.map a_Term r10.1.gather.post), .sl 1 (List.map aLa_Term r10.1.gather.starts), .sl 5 (List.map a_Path r10.1.gather.paths), .sl 3 (List.map a_Sequent r10.1.gather.conds), .bool r10.1.gather.failed], .int .i64 p1]) (c_impl_gather_isStart r10.1.gather p1 r20 hr20) (⟨_, _, rfl, .inr ⟨_, 5, rfl, rfl⟩, ⟨_, _, rfl, .inl rfl, rfl⟩⟩)) Try.call49 rfl rfl rfl rfl rfl ?_
    refine TL_want rfl rfl ?_
    refine TL_pure rfl rfl rfl rfl (op_not rfl) ?_
    refine TL_pure rfl rfl rfl rfl (op_pick_false rfl rfl) ?_
    refine TL_nil ?_
    refine T_cond rfl (fun hq => ?_) (fun hq => ?_)
    · replace hm := condT hq hm
      refine T_seq ?_
      refine T_region ?_
      refine TL_pure rfl rfl rfl rfl (op_assign rfl) ?_
      refine TL_pure rfl rfl rfl rfl (op_assign rfl) ?_
      refine TL_nil ?_
      refine T_ownNil 4 63 ⟨false, true⟩ 67 rfl rfl (sz := 2) rfl rfl rfl ?_
      refine T_keepH [4, 5] [63] rfl rfl rfl rfl (by rw [hF]; rfl) ?_
      refine T_ren [(63, 1000)] rfl rfl rfl (by rw [hF]; rfl) ?_
      refine T_ret ?_
      obtain rfl := someI hm
      refine ⟨[_, _], [1000], ⟨rfl, rfl, trivial⟩, ?_, rfl, rfl, rfl, rfl⟩
      rfl
    · replace hm := condF hq hm
      refine T_skip ?_
      refine T_seq ?_
      refine T_region ?_
      refine TL_pure rfl rfl rfl rfl (op_move rfl) ?_
      refine TL_pure rfl rfl rfl rfl (op_nilCheck rfl rfl) ?_
      refine TL_pure rfl rfl rfl rfl (op_fieldAddr fa92_0 rfl rfl) ?_
      refine TL_pure rfl rfl rfl rfl (op_fieldAddr fa86_1 rfl rfl) ?_
      refine TL_pure rfl rfl rfl rfl (op_load_one ag82 rfl rfl) ?_
      refine TL_pure rfl rfl rfl rfl (op_move rfl) ?_
      refine TL_pure rfl rfl rfl rfl (op_addW rfl rfl) ?_
      obtain ⟨x30, hx30, hm⟩ := bindS hm
      refine TL_pure rfl rfl rfl rfl (op_indexT el82 rfl rfl hx30 rfl) ?_
      refine TL_pure rfl rfl rfl rfl (op_load_one ag30 rfl rfl) ?_
      obtain ⟨r32, hr32, hm⟩ := bindS hm
      refine TL_callO [(1000, 64)] (c_impl_ownTerms x30 r32 hr32) Try.call50 rfl rfl rfl rfl rfl rfl rfl rfl rfl rfl rfl rfl rfl ?_
      refine TL_pure rfl rfl rfl rfl (op_assign rfl) ?_
      refine TL_pure rfl rfl rfl rfl (op_assign rfl) ?_
      refine TL_nil ?_
      refine T_keepH [4, 5] [64] rfl rfl rfl rfl (by rw [hF]; rfl) ?_
      refine T_ren [(64, 1000)] rfl rfl rfl (by rw [hF]; rfl) ?_
      refine T_ret ?_
      obtain rfl := someI hm
      refine ⟨[_, _], [1000], ⟨rfl, rfl, trivial⟩, ?_, rfl, rfl, rfl, rfl⟩
      rfl
  · replace hm := condF hq hm
    refine TLE_call [] [] [] (by have hc := c_impl_planOf p0 r10 hr10; rw [hq] at hc; exact hc) (fun _ => rfl) Try.call44 rfl rfl rfl rfl rfl trivial rfl rfl rfl rfl rfl rfl rfl rfl rfl rfl rfl ?_
    refine TL_pure rfl rfl rfl rfl (op_move rfl) ?_
    refine TL_pure rfl rfl rfl rfl (op_extract rfl rfl) ?_
    refine TL_pure rfl rfl rfl rfl (op_extract rfl rfl) ?_
    refine TL_pure rfl rfl rfl rfl (op_assign rfl) ?_
    refine TL_pure rfl rfl rfl rfl (op_assign rfl) ?_
    refine TL_nil ?_
    refine T_seq ?_
    refine T_seq ?_
    refine T_region ?_
    refine TL_pure rfl rfl rfl rfl (op_move rfl) ?_
    refine TL_pure rfl rfl rfl rfl (op_not rfl) ?_
    refine TL_pure rfl rfl rfl rfl (op_move rfl) ?_
    refine TL_pass rfl rfl rfl rfl rfl rfl rfl ?_
    refine TL_pass rfl rfl rfl rfl rfl rfl rfl ?_
    refine TL_pass rfl rfl rfl rfl rfl rfl rfl ?_
    refine TL_pass rfl rfl rfl rfl rfl rfl rfl ?_
    refine TL_pass rfl rfl rfl rfl rfl rfl rfl ?_
    refine TL_pass rfl rfl rfl rfl rfl rfl rfl ?_
    refine TL_pure rfl rfl rfl rfl (op_pick_true rfl rfl) ?_
    refine TL_nil ?_
    refine T_cond_true rfl ?_
    refine T_seq ?_
    refine T_region ?_
    refine TL_pure rfl rfl rfl rfl (op_assign rfl) ?_
    refine TL_pure rfl rfl rfl rfl (op_assign rfl) ?_
    refine TL_nil ?_
    refine T_ownNil 4 65 ⟨false, true⟩ 67 rfl rfl (sz := 2) rfl rfl rfl ?_
    refine T_keepH [4, 5] [65] rfl rfl rfl rfl (by rw [hF]; rfl) ?_
    refine T_ren [(65, 1000)] rfl rfl rfl (by rw [hF]; rfl) ?_
    refine T_ret ?_
    obtain rfl := someI hm
    refine ⟨[_, _], [1000], ⟨rfl, rfl, trivial⟩, ?_, rfl, rfl, rfl, rfl⟩
    rfl
theorem c_impl_ValidState (p0 : State) (out : Bool) (hm : m_impl_ValidState p0 = some out) : ACall Try.prog 83 [.agg [.sl 1 (List.map a_i64 p0.Vars), .sl 1 (List.map a_i64 p0.Cells)]] [] (.bool out) [] := by
  refine ACall.intro Try.func83 rfl Try.ntmps83 rfl (fun F hF => ?_)
  unfold m_impl_ValidState at hm
  refine T_seq ?_
  refine T_region ?_
  refine TL_box 11 rfl rfl rfl rfl rfl rfl rfl ?_
  refine TL_pure rfl rfl rfl rfl (op_assign rfl) ?_
  refine TL_nil ?_
  refine T_seq ?_
  refine T_region ?_
  refine TL_pure rfl rfl rfl rfl (op_fieldAddr fa50_0 rfl rfl) ?_
  refine TL_pure rfl rfl rfl rfl (op_load_one ag27 rfl rfl) ?_
  refine TL_pure rfl rfl rfl rfl (op_lenT Try.underlying27 rfl (List.length_map _)) ?_
  refine TL_fact (fun _ _ _ hr => RelP.slLen (i := 4) rfl hr) (fun hlen5 => ?_)
  rw [List.length_map] at hlen5
  refine TL_pure rfl rfl rfl rfl (op_eql rfl rfl) ?_
  refine TL_pure rfl rfl rfl rfl (op_move rfl) ?_
  refine TL_join 5 (fun _ : Unit => ⟨[(1, .ptr 11 0 0), (12, .bool ((decide ((p0.Vars.length : Int) = (4 : Int))) && (decide ((p0.Cells.length : Int) = (8 : Int)))))], [(11, .box [.sl 1 (List.map a_i64 p0.Vars), .sl 1 (List.map a_i64 p0.Cells)])]⟩) (fun _ => True) (fun _ _ => ?_) (fun hjj => ?_)
  · refine TL_pure rfl rfl rfl rfl (op_move rfl) ?_
    refine TL_split 13 rfl rfl rfl (fun hq => ?_) (fun hq => ?_)
    · replace hm := condT hq hm
      refine TL_want rfl rfl ?_
      refine TL_pure rfl rfl rfl rfl (op_fieldAddr fa50_0 rfl rfl) ?_
      refine TL_want rfl rfl ?_
      refine TL_pure rfl rfl rfl rfl (op_load_one ag27 rfl rfl) ?_
      refine TL_want rfl rfl ?_
      obtain ⟨r16, hr16, hm⟩ := bindS hm
      refine TL_callF (c_impl_allWithin p0.Vars (-1000000000 : Int) (1000000000 : Int) r16 hr16) Try.call103 rfl rfl rfl rfl rfl ?_
      refine TL_pure rfl rfl rfl rfl (op_pick_true rfl rfl) ?_
      refine TL_pure rfl rfl rfl rfl (op_move rfl) ?_
      refine TL_split 18 rfl rfl rfl (fun hq => ?_) (fun hq => ?_)
      · replace hm := condT hq hm
        refine TL_want rfl rfl ?_
        refine TL_pure rfl rfl rfl rfl (op_fieldAddr fa50_1 rfl rfl) ?_
        refine TL_want rfl rfl ?_
        refine TL_pure rfl rfl rfl rfl (op_load_one ag27 rfl rfl) ?_
        refine TL_want rfl rfl ?_
        obtain ⟨r21, hr21, hm⟩ := bindS hm
        refine TL_callF (c_impl_allWithin p0.Cells (-1000000000 : Int) (1000000000 : Int) r21 hr21) Try.call103 rfl rfl rfl rfl rfl ?_
        refine TL_pure rfl rfl rfl rfl (op_pick_true rfl rfl) ?_
        refine TL_pure rfl rfl rfl rfl (op_assign rfl) ?_
        refine TL_nil ?_
        refine T_keepH [2] [] rfl rfl rfl rfl (by rw [hF]; rfl) ?_
        refine T_ret ?_
        obtain rfl := someI hm
        refine ⟨[_], [], ⟨rfl, trivial⟩, ?_, rfl, rfl, rfl, rfl⟩
        rfl
      · replace hm := condF hq hm
        refine TL_pass rfl rfl rfl rfl rfl rfl rfl ?_
        refine TL_pass rfl rfl rfl rfl rfl rfl rfl ?_
        refine TL_pass rfl rfl rfl rfl rfl rfl rfl ?_
        refine TL_pure rfl rfl rfl rfl (op_pick_false rfl rfl) ?_
        refine TL_pure rfl rfl rfl rfl (op_assign rfl) ?_
        refine TL_nil ?_
        refine T_keepH [2] [] rfl rfl rfl rfl (by rw [hF]; rfl) ?_
        refine T_ret ?_
        obtain rfl := someI hm
        refine ⟨[_], [], ⟨rfl, trivial⟩, ?_, rfl, rfl, rfl, rfl⟩
        rfl
    · replace hm := condF hq hm
      refine TL_pass rfl rfl rfl rfl rfl rfl rfl ?_
      refine TL_pass rfl rfl rfl rfl rfl rfl rfl ?_
      refine TL_pass rfl rfl rfl rfl rfl rfl rfl ?_
      refine TL_pure rfl rfl rfl rfl (op_pick_false rfl rfl) ?_
      refine TL_pure rfl rfl rfl rfl (op_move rfl) ?_
      refine TL_pass rfl rfl rfl rfl rfl rfl rfl ?_
      refine TL_pass rfl rfl rfl rfl rfl rfl rfl ?_
      refine TL_pass rfl rfl rfl rfl rfl rfl rfl ?_
      refine TL_pure rfl rfl rfl rfl (op_pick_false rfl rfl) ?_
      refine TL_pure rfl rfl rfl rfl (op_assign rfl) ?_
      refine TL_nil ?_
      refine T_keepH [2] [] rfl rfl rfl rfl (by rw [hF]; rfl) ?_
      refine T_ret ?_
      obtain rfl := someI hm
      refine ⟨[_], [], ⟨rfl, trivial⟩, ?_, rfl, rfl, rfl, rfl⟩
      rfl
  · refine TL_split 7 rfl rfl rfl (fun hq => ?_) (fun hq => ?_)
    · refine TL_want rfl rfl ?_
      refine TL_pure rfl rfl rfl rfl (op_fieldAddr fa50_1 rfl rfl) ?_
      refine TL_want rfl rfl ?_
      refine TL_pure rfl rfl rfl rfl (op_load_one ag27 rfl rfl) ?_
      refine TL_want rfl rfl ?_
      refine TL_pure rfl rfl rfl rfl (op_lenT Try.underlying27 rfl (List.length_map _)) ?_
      refine TL_fact (fun _ _ _ hr => RelP.slLen (i := 9) rfl hr) (fun hlen10 => ?_)
      rw [List.length_map] at hlen10
      refine TL_want rfl rfl ?_
      refine TL_pure rfl rfl rfl rfl (op_eql rfl rfl) ?_
      refine TL_pure rfl rfl rfl rfl (op_pick_true rfl rfl) ?_
      refine TL_keepH [1, 12] [11] rfl rfl rfl rfl (by rw [hF]; rfl) ?_
      exact TL_cast _ (by first | (rw [hq, Bool.true_and]; done) | (rw [hq]; rfl)) (hjj () trivial)
    · refine TL_pass rfl rfl rfl rfl rfl rfl rfl ?_
      refine TL_pass rfl rfl rfl rfl rfl rfl rfl ?_
      refine TL_pass rfl rfl rfl rfl rfl rfl rfl ?_
      refine TL_pass rfl rfl rfl rfl rfl rfl rfl ?_
      refine TL_pure rfl rfl rfl rfl (op_pick_false rfl rfl) ?_
      refine TL_keepH [1, 12] [11] rfl rfl rfl rfl (by rw [hF]; rfl) ?_
      exact TL_cast _ (by first | (rw [hq, Bool.false_and]; done) | (rw [hq]; rfl)) (hjj () trivial)
theorem c_impl_Term_eval (p0 : Term) (p1 : List Int) (out : Int) (hm : m_impl_Term_eval p0 p1 = some out) : ACall Try.prog 104 [.agg [.int .i64 p0.Const, .sl 1 (List.map a_i64 p0.Coeffs)], .sl 1 (List.map a_i64 p1)] [] (.int .i64 out) [] := by
  refine ACall.intro Try.func104 rfl Try.ntmps104 rfl (fun F hF => ?_)
  unfold m_impl_Term_eval at hm
  refine T_seq ?_
  refine T_region ?_
  refine TL_box 11 rfl rfl rfl rfl rfl rfl rfl ?_
  refine TL_pure rfl rfl rfl rfl (op_assign rfl) ?_
  refine TL_nil ?_
  refine T_seq ?_
  refine T_region ?_
  refine TL_pure rfl rfl rfl rfl (op_fieldAddr fa67_0 rfl rfl) ?_
  refine TL_pure rfl rfl rfl rfl (op_load_one ag2 rfl rfl) ?_
  refine TL_pure rfl rfl rfl rfl (op_assign rfl) ?_
  refine TL_nil ?_
  refine T_seq ?_
  refine T_seq ?_
  refine T_region ?_
  refine TL_pure rfl rfl rfl rfl (op_fieldAddr fa67_1 rfl rfl) ?_
  refine TL_pure rfl rfl rfl rfl (op_load_one ag27 rfl rfl) ?_
  refine TL_pure rfl rfl rfl rfl (op_lenT Try.underlying27 rfl (List.length_map _)) ?_
  refine TL_fact (fun _ _ _ hr => RelP.slLen (i := 11) rfl hr) (fun hlen12 => ?_)
  rw [List.length_map] at hlen12
  refine TL_pure rfl rfl rfl rfl (op_move rfl) ?_
  refine TL_nil ?_
  refine T_block ?_
  refine T_keepH [1, 5, 11, 12, 13] [] rfl rfl rfl rfl (by rw [hF]; rfl) ?_
  refine T_loop ?_
  obtain ⟨u0, hl0, hm⟩ := bindS hm
  refine TR_forL2 p0.Coeffs (m_impl_Term_eval_L0 p1) (fun (s0 : Int) => s0) (fun n0 (s0 : Int) => ⟨[(1, .sl 1 (List.map a_i64 p1)), (5, .int .i64 s0), (11, .sl 1 (List.map a_i64 p0.Coeffs)), (12, .int .i64 (p0.Coeffs.length : Int)), (13, .int .i64 (n0 : Int))], []⟩) (fun u0 => .exit 0) (fun u0 => ⟨[(5, .int .i64 u0)], []⟩) (fun u0 => m_impl_Term_eval_A0 u0 = some out) hl0 hm (fun u0 hm => ?_) (fun hx0 s0 hm => ?_) (fun hx0 n0 x0 s0 c0 hxn0 hlt0 hm hc0 => ?_)
  · unfold m_impl_Term_eval_A0 at hm
    refine T_seq ?_
    refine T_region ?_
    refine TL_pure rfl rfl rfl rfl (op_move rfl) ?_
    refine TL_pure rfl rfl rfl rfl (op_assign rfl) ?_
    refine TL_nil ?_
    refine T_keepH [4] [] rfl rfl rfl rfl (by rw [hF]; rfl) ?_
    refine T_ret ?_
    obtain rfl := someI hm
    refine ⟨[_], [], ⟨rfl, trivial⟩, ?_, rfl, rfl, rfl, rfl⟩
    rfl
  · refine T_seq ?_
    refine T_region ?_
    refine TL_pure rfl rfl rfl rfl (op_lss rfl rfl) ?_
    refine TL_nil ?_
    refine T_seq ?_
    refine T_if_false rfl (decide_eq_false (by simp)) ?_
    refine T_keepH [5] [] rfl rfl rfl rfl (by rw [hF]; rfl) ?_
    refine T_exit ?_
    exact hx0 s0 hm
  · unfold m_impl_Term_eval_L0 at hm
    refine T_seq ?_
    refine T_region ?_
    refine TL_pure rfl rfl rfl rfl (op_lss rfl rfl) ?_
    refine TL_nil ?_
    refine T_seq ?_
    refine T_if_true rfl (decide_eq_true (Int.ofNat_lt.2 hlt0)) ?_
    refine T_skip ?_
    refine T_seq ?_
    refine T_block ?_
    refine T_seq ?_
    refine T_region ?_
    refine TL_pure rfl rfl rfl rfl (op_move rfl) ?_
    refine TL_pure rfl rfl rfl rfl (op_index_sl el27 rfl rfl rfl (get_map hxn0) rfl) ?_
    refine TL_pure rfl rfl rfl rfl (op_load_one ag2 rfl rfl) ?_
    refine TL_pure rfl rfl rfl rfl (op_assign rfl) ?_
    refine TL_pure rfl rfl rfl rfl (op_assign rfl) ?_
    refine TL_nil ?_
    refine T_region ?_
    refine TL_pure rfl rfl rfl rfl (op_move rfl) ?_
    refine TL_pure rfl rfl rfl rfl (op_move rfl) ?_
    refine TL_pure rfl rfl rfl rfl (op_move rfl) ?_
    refine TL_pure rfl rfl rfl rfl (op_move rfl) ?_
    obtain ⟨x22, hx22, hm⟩ := bindS hm
    refine TL_pure rfl rfl rfl rfl (op_indexT el27 rfl rfl hx22 rfl) ?_
    refine TL_pure rfl rfl rfl rfl (op_load_one ag2 rfl rfl) ?_
    refine TL_pure rfl rfl rfl rfl (op_mulW rfl rfl) ?_
    refine TL_pure rfl rfl rfl rfl (op_addW rfl rfl) ?_
    refine TL_pure rfl rfl rfl rfl (op_assign rfl) ?_
    refine TL_nil ?_
    refine T_region ?_
    refine TL_pure rfl rfl rfl rfl (op_addN rfl rfl (Nat.lt_of_lt_of_le hlt0 hlen12)) ?_
    refine TL_pure rfl rfl rfl rfl (op_move rfl) ?_
    refine TL_nil ?_
    refine TR_keepH [1, 5, 11, 12, 13] [] rfl rfl rfl rfl (by rw [hF]; rfl) ?_
    obtain rfl := someI hm
    have hn := CtlOK_next hc0
    exact hn _ rfl
theorem c_impl_hold (p0 : List Term) (p1 : List Int) (out : Bool) (hm : m_impl_hold p0 p1 = some out) : ACall Try.prog 84 [.sl 2 (List.map a_Term p0), .sl 1 (List.map a_i64 p1)] [] (.bool out) [] := by
  refine ACall.intro Try.func84 rfl Try.ntmps84 rfl (fun F hF => ?_)
  unfold m_impl_hold at hm
  refine T_seq ?_
  refine T_region ?_
  refine TL_pure rfl rfl rfl rfl (op_assign rfl) ?_
  refine TL_nil ?_
  refine T_seq ?_
  refine T_seq ?_
  refine T_region ?_
  refine TL_pure rfl rfl rfl rfl (op_move rfl) ?_
  refine TL_pure rfl rfl rfl rfl (op_lenT Try.underlying30 rfl (List.length_map _)) ?_
  refine TL_fact (fun _ _ _ hr => RelP.slLen (i := 7) rfl hr) (fun hlen8 => ?_)
  rw [List.length_map] at hlen8
  refine TL_pure rfl rfl rfl rfl (op_move rfl) ?_
  refine TL_nil ?_
  refine T_block ?_
  refine T_keepH [1, 7, 8, 9] [] rfl rfl rfl rfl (by rw [hF]; rfl) ?_
  refine T_loop ?_
  obtain ⟨u0, hl0, hm⟩ := bindS hm
  refine TR_forL2 p0 (m_impl_hold_L0 p1) (fun (s0 : Unit) => (.inl ())) (fun n0 (s0 : Unit) => ⟨[(1, .sl 1 (List.map a_i64 p1)), (7, .sl 2 (List.map a_Term p0)), (8, .int .i64 (p0.length : Int)), (9, .int .i64 (n0 : Int))], []⟩) (fun u0 => match u0 with | .inl u0 => .exit 0 | .inr u0 => .ret) (fun u0 => match u0 with | .inl u0 => ⟨[], []⟩ | .inr u0 => ⟨[(4, .bool u0)], []⟩) (fun u0 => m_impl_hold_A0 u0 = some out) hl0 hm (fun u0 hm => ?_) (fun hx0 s0 hm => ?_) (fun hx0 n0 x0 s0 c0 hxn0 hlt0 hm hc0 => ?_)
  · rcases u0 with u0 | u0
    · unfold m_impl_hold_A0 at hm
      refine T_seq ?_
      refine T_region ?_
      refine TL_pure rfl rfl rfl rfl (op_assign rfl) ?_
      refine TL_nil ?_
      refine T_keepH [4] [] rfl rfl rfl rfl (by rw [hF]; rfl) ?_
      refine T_ret ?_
      obtain rfl := someI hm
      refine ⟨[_], [], ⟨rfl, trivial⟩, ?_, rfl, rfl, rfl, rfl⟩
      rfl
    · unfold m_impl_hold_A0 at hm
      obtain rfl := someI hm
      refine ⟨[_], [], ⟨rfl, trivial⟩, ?_, rfl, rfl, rfl, rfl⟩
      rfl
  · refine T_seq ?_
    refine T_region ?_
    refine TL_pure rfl rfl rfl rfl (op_lss rfl rfl) ?_
    refine TL_nil ?_
    refine T_seq ?_
    refine T_if_false rfl (decide_eq_false (by simp)) ?_
    refine T_keepH [] [] rfl rfl rfl rfl (by rw [hF]; rfl) ?_
    refine T_exit ?_
    exact hx0 (.inl ()) hm
  · unfold m_impl_hold_L0 at hm
    refine T_seq ?_
    refine T_region ?_
    refine TL_pure rfl rfl rfl rfl (op_lss rfl rfl) ?_
    refine TL_nil ?_
    refine T_seq ?_
    refine T_if_true rfl (decide_eq_true (Int.ofNat_lt.2 hlt0)) ?_
    refine T_skip ?_
    refine T_seq ?_
    refine T_block ?_
    refine T_seq ?_
    refine T_region ?_
    refine TL_pure rfl rfl rfl rfl (op_index_sl el30 rfl rfl rfl (get_map hxn0) rfl) ?_
    refine TL_pure rfl rfl rfl rfl (op_load_agg ag67 sz67 rfl rfl rfl) ?_
    refine TL_alloc 12 z67 rfl rfl rfl rfl rfl rfl rfl ?_
    refine TL_store_box sz67 rfl rfl rfl rfl rfl rfl rfl rfl rfl ?_
    refine TL_nil ?_
    refine T_seq ?_
    refine T_region ?_
    refine TL_pure rfl rfl rfl rfl (op_load_agg ag67 sz67 rfl rfl rfl) ?_
    refine TL_pure rfl rfl rfl rfl (op_move rfl) ?_
    obtain ⟨r15, hr15, hm⟩ := bindS hm
    refine TL_callF (c_impl_Term_eval x0 p1 r15 hr15) Try.call104 rfl rfl rfl rfl rfl ?_
    refine TL_pure rfl rfl rfl rfl (op_lss rfl rfl) ?_
    refine TL_nil ?_
    refine T_cond rfl (fun hq => ?_) (fun hq => ?_)
    · replace hm := condT hq hm
      refine T_seq ?_
      refine T_region ?_
      refine TL_pure rfl rfl rfl rfl (op_assign rfl) ?_
      refine TL_nil ?_
      refine T_keepH [4] [] rfl rfl rfl rfl (by rw [hF]; rfl) ?_
      refine T_ret ?_
      obtain rfl := someI hm
      have hn := CtlOK_out hc0
      exact hx0 (.inr false) hn
    · replace hm := condF hq hm
      refine T_skip ?_
      refine T_region ?_
      refine TL_pure rfl rfl rfl rfl (op_addN rfl rfl (Nat.lt_of_lt_of_le hlt0 hlen8)) ?_
      refine TL_pure rfl rfl rfl rfl (op_move rfl) ?_
      refine TL_nil ?_
      refine TR_keepH [1, 7, 8, 9] [] rfl rfl rfl rfl (by rw [hF]; rfl) ?_
      obtain rfl := someI hm
      have hn := CtlOK_next hc0
      exact hn _ rfl
theorem c_impl_HoldsIn (p0 : List Term) (p1 : State) (out : Bool × Bool) (hm : m_impl_HoldsIn p0 p1 = some out) : ACall Try.prog 56 [.sl 2 (List.map a_Term p0), .agg [.sl 1 (List.map a_i64 p1.Vars), .sl 1 (List.map a_i64 p1.Cells)]] [] (.tup [.bool out.1, .bool out.2]) [] := by
  refine ACall.intro Try.func56 rfl Try.ntmps56 rfl (fun F hF => ?_)
  unfold m_impl_HoldsIn at hm
  refine T_seq ?_
  refine T_region ?_
  refine TL_box 11 rfl rfl rfl rfl rfl rfl rfl ?_
  refine TL_pure rfl rfl rfl rfl (op_assign rfl) ?_
  refine TL_pure rfl rfl rfl rfl (op_assign rfl) ?_
  refine TL_nil ?_
  refine T_seq ?_
  refine T_seq ?_
  refine T_region ?_
  refine TL_pure rfl rfl rfl rfl (op_move rfl) ?_
  obtain ⟨r7, hr7, hm⟩ := bindS hm
  refine TL_callF (c_impl_areOver p0 (14 : Int) r7 hr7) Try.call82 rfl rfl rfl rfl rfl ?_
  refine TL_pure rfl rfl rfl rfl (op_not rfl) ?_
  refine TL_pure rfl rfl rfl rfl (op_move rfl) ?_
  refine TL_split 9 rfl rfl rfl (fun hq => ?_) (fun hq => ?_)
  · replace hm := condT hq hm
    refine TL_pass rfl rfl rfl rfl rfl rfl rfl ?_
    refine TL_pass rfl rfl rfl rfl rfl rfl rfl ?_
    refine TL_pass rfl rfl rfl rfl rfl rfl rfl ?_
    refine TL_pure rfl rfl rfl rfl (op_pick_true rfl rfl) ?_
    refine TL_nil ?_
    refine T_cond_true rfl ?_
    refine T_seq ?_
    refine T_region ?_
    refine TL_pure rfl rfl rfl rfl (op_assign rfl) ?_
    refine TL_pure rfl rfl rfl rfl (op_assign rfl) ?_
    refine TL_nil ?_
    refine T_keepH [4, 5] [] rfl rfl rfl rfl (by rw [hF]; rfl) ?_
    refine T_ret ?_
    obtain rfl := someI hm
    refine ⟨[_, _], [], ⟨rfl, rfl, trivial⟩, ?_, rfl, rfl, rfl, rfl⟩
    rfl
  · replace hm := condF hq hm
    refine TL_want rfl rfl ?_
    refine TL_pure rfl rfl rfl rfl (op_load_agg ag50 sz50 rfl rfl rfl) ?_
    refine TL_want rfl rfl ?_
    obtain ⟨r11, hr11, hm⟩ := bindS hm
    refine TL_callF (c_impl_ValidState p1 r11 hr11) Try.call83 rfl rfl rfl rfl rfl ?_
    refine TL_want rfl rfl ?_
    refine TL_pure rfl rfl rfl rfl (op_not rfl) ?_
    refine TL_pure rfl rfl rfl rfl (op_pick_false rfl rfl) ?_
    refine TL_nil ?_
    refine T_cond rfl (fun hq => ?_) (fun hq => ?_)
    · replace hm := condT hq hm
      refine T_seq ?_
      refine T_region ?_
      refine TL_pure rfl rfl rfl rfl (op_assign rfl) ?_
      refine TL_pure rfl rfl rfl rfl (op_assign rfl) ?_
      refine TL_nil ?_
      refine T_keepH [4, 5] [] rfl rfl rfl rfl (by rw [hF]; rfl) ?_
      refine T_ret ?_
      obtain rfl := someI hm
      refine ⟨[_, _], [], ⟨rfl, rfl, trivial⟩, ?_, rfl, rfl, rfl, rfl⟩
      rfl
    · replace hm := condF hq hm
      refine T_skip ?_
      refine T_seq ?_
      refine T_region ?_
      refine TL_pure rfl rfl rfl rfl (op_move rfl) ?_
      refine TL_pure rfl rfl rfl rfl (op_fieldAddr fa50_0 rfl rfl) ?_
      refine TL_pure rfl rfl rfl rfl (op_load_one ag27 rfl rfl) ?_
      obtain ⟨r17, hr17, hm⟩ := bindS hm
      refine TL_callF (c_impl_hold p0 p1.Vars r17 hr17) Try.call84 rfl rfl rfl rfl rfl ?_
      refine TL_pure rfl rfl rfl rfl (op_assign rfl) ?_
      refine TL_pure rfl rfl rfl rfl (op_assign rfl) ?_
      refine TL_nil ?_
      refine T_keepH [4, 5] [] rfl rfl rfl rfl (by rw [hF]; rfl) ?_
      refine T_ret ?_
      obtain rfl := someI hm
      refine ⟨[_, _], [], ⟨rfl, rfl, trivial⟩, ?_, rfl, rfl, rfl, rfl⟩
      rfl
theorem c_impl_HoldsAt (p0 : Program) (p1 : Int) (p2 : State) (out : Bool × Bool) (hm : m_impl_HoldsAt p0 p1 p2 = some out) : ACall Try.prog 27 [.agg [.sl 2 (List.map a_Term p0.Pre), .sl 8 (List.map a_Stmt p0.Body), .sl 2 (List.map a_Term p0.Post)], .int .i64 p1, .agg [.sl 1 (List.map a_i64 p2.Vars), .sl 1 (List.map a_i64 p2.Cells)]] [] (.tup [.bool out.1, .bool out.2]) [] := by
  refine ACall.intro Try.func27 rfl Try.ntmps27 rfl (fun F hF => ?_)
  unfold m_impl_HoldsAt at hm
  refine T_seq ?_
  refine T_region ?_
  refine TL_box 11 rfl rfl rfl rfl rfl rfl rfl ?_
  refine TL_box 12 rfl rfl rfl rfl rfl rfl rfl ?_
  refine TL_pure rfl rfl rfl rfl (op_assign rfl) ?_
  refine TL_pure rfl rfl rfl rfl (op_assign rfl) ?_
  refine TL_nil ?_
  refine T_seq ?_
  refine T_region ?_
  refine TL_pure rfl rfl rfl rfl (op_load_agg ag33 sz33 rfl rfl rfl) ?_
  refine TL_pure rfl rfl rfl rfl (op_move rfl) ?_
  obtain ⟨r13, hr13, hm⟩ := bindS hm
  refine TL_callO [(1000, 13)] (c_impl_StartFacts p0 p1 r13 hr13) Try.call20 rfl rfl rfl rfl rfl rfl rfl rfl rfl rfl rfl rfl rfl ?_
  refine TL_pure rfl rfl rfl rfl (op_move rfl) ?_
  refine TL_pure rfl rfl rfl rfl (op_extract rfl rfl) ?_
  refine TL_pure rfl rfl rfl rfl (op_extract rfl rfl) ?_
  refine TL_pure rfl rfl rfl rfl (op_assign rfl) ?_
  refine TL_pure rfl rfl rfl rfl (op_assign rfl) ?_
  refine TL_nil ?_
  refine T_seq ?_
  refine T_seq ?_
  refine T_region ?_
  refine TL_pure rfl rfl rfl rfl (op_move rfl) ?_
  refine TL_pure rfl rfl rfl rfl (op_not rfl) ?_
  refine TL_nil ?_
  refine T_cond rfl (fun hq => ?_) (fun hq => ?_)
  · replace hm := condT hq hm
    refine T_seq ?_
    refine T_region ?_
    refine TL_pure rfl rfl rfl rfl (op_assign rfl) ?_
    refine TL_pure rfl rfl rfl rfl (op_assign rfl) ?_
    refine TL_nil ?_
    refine T_keepH [6, 7] [] rfl rfl rfl rfl (by rw [hF]; rfl) ?_
    refine T_ret ?_
    obtain rfl := someI hm
    refine ⟨[_, _], [], ⟨rfl, rfl, trivial⟩, ?_, rfl, rfl, rfl, rfl⟩
    rfl
  · replace hm := condF hq hm
    refine T_skip ?_
    refine T_seq ?_
    refine T_region ?_
    refine TL_pure rfl rfl rfl rfl (op_move rfl) ?_
    refine TL_pure rfl rfl rfl rfl (op_load_agg ag50 sz50 rfl rfl rfl) ?_
    obtain ⟨r20, hr20, hm⟩ := bindS hm
    refine TL_callF (c_impl_HoldsIn r13.1 p2 r20 hr20) Try.call56 rfl rfl rfl rfl rfl ?_
    refine TL_pure rfl rfl rfl rfl (op_extract rfl rfl) ?_
    refine TL_pure rfl rfl rfl rfl (op_extract rfl rfl) ?_
    refine TL_pure rfl rfl rfl rfl (op_assign rfl) ?_
    refine TL_pure rfl rfl rfl rfl (op_assign rfl) ?_
    refine TL_nil ?_
    refine T_keepH [6, 7] [] rfl rfl rfl rfl (by rw [hF]; rfl) ?_
    refine T_ret ?_
    obtain rfl := someI hm
    refine ⟨[_, _], [], ⟨rfl, rfl, trivial⟩, ?_, rfl, rfl, rfl, rfl⟩
    rfl
end Go.Mod
