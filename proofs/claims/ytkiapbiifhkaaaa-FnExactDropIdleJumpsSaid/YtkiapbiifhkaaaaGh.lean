import Derived.Test.YtkiapbiifhkaaaaGg
namespace Go.Mod
open Go Go.AM Go.Proofs
set_option linter.unusedVariables false
set_option linter.unusedSimpArgs false
set_option maxRecDepth 100000
set_option maxHeartbeats 8000000
theorem c_impl_Annotated_without (p0 : Annotated) (p1 : List Bool) (out : Annotated) (hm : m_impl_Annotated_without p0 p1 = some out) : ACall Try.prog 102 [.agg [.sl 2 (List.map a_Term p0.Pre), .sl 2 (List.map a_Term p0.Post), .sl 2 (List.map a_Instr p0.Code), .sl 2 (List.map a_Point p0.Points)], .sl 1 (List.map a_bool p1)] [] (.agg [.ow 1000, .ow 1001, .ow 1002, .ow 1003]) [(1000, .arr ⟨false, true⟩ 2 184 (List.map a_Term out.Pre)), (1001, .arr ⟨false, true⟩ 2 184 (List.map a_Term out.Post)), (1002, .arr ⟨false, true⟩ 2 40 (List.map a_Instr out.Code)), (1003, .arr ⟨false, true⟩ 2 81 (List.map a_Point out.Points))] := by
  refine ACall.intro Try.func102 rfl Try.ntmps102 rfl (fun F hF => ?_)
  unfold m_impl_Annotated_without at hm
  refine T_seq ?_
  refine T_region ?_
  refine TL_box 11 rfl rfl rfl rfl rfl rfl rfl ?_
  refine TL_box 12 rfl rfl rfl rfl rfl rfl rfl ?_
  refine TL_alloc 13 z69 rfl rfl rfl rfl rfl rfl rfl ?_
  refine TL_nil ?_
  refine T_join (fun (j0 : (List Term) × (List Term)) => ⟨[(2, .ptr 11 0 0), (3, .ptr 12 0 0), (4, .ptr 13 0 0), (5, .ptr 654 0 0)], [(11, .box [.sl 2 (List.map a_Term p0.Pre), .sl 2 (List.map a_Term p0.Post), .sl 2 (List.map a_Instr p0.Code), .sl 2 (List.map a_Point p0.Points)]), (12, .box [.sl 1 (List.map a_bool p1)]), (13, .box [.snil, .snil, .snil, .snil]), (254, .arr ⟨false, true⟩ 2 184 (List.map a_Term j0.1)), (494, .arr ⟨false, true⟩ 2 184 (List.map a_Term j0.2)), (654, .box [.ow 254, .ow 494, .snil, .snil])]⟩) (fun j0 => m_impl_Annotated_without_J0 p0 p1 j0 = some out) (fun j0 hm => ?_) (fun hj0 => ?_)
  · unfold m_impl_Annotated_without_J0 at hm
    refine T_seq ?_
    refine T_region ?_
    refine TL_freezeB 12 (by rw [hF]; rfl) rfl rfl rfl rfl ?_
    refine TL_pure rfl rfl rfl rfl (op_makeFunc rfl rfl) ?_
    refine TL_pure rfl rfl rfl rfl (op_assign rfl) ?_
    refine TL_nil ?_
    refine T_seq ?_
    refine T_seq ?_
    refine T_region ?_
    refine TL_pure rfl rfl rfl rfl (op_fieldAddr fa69_2 rfl rfl) ?_
    refine TL_pure rfl rfl rfl rfl (op_load_one ag24 rfl rfl) ?_
    refine TL_pure rfl rfl rfl rfl (op_lenT Try.underlying24 rfl (List.length_map _)) ?_
    refine TL_fact (fun _ _ _ hr => RelP.slLen (i := 20) rfl hr) (fun hlen21 => ?_)
    rw [List.length_map] at hlen21
    refine TL_pure rfl rfl rfl rfl (op_move rfl) ?_
    refine TL_nil ?_
    refine T_block ?_
    refine T_ownNilBox 654 2 4825 ⟨false, false⟩ 40 rfl rfl rfl (sz := 2) rfl rfl rfl rfl ?_
    refine T_keepH [2, 3, 4, 5, 6, 20, 21, 22] [11, 13, 254, 494, 654, 4825] rfl rfl rfl rfl (by rw [hF]; rfl) ?_
    refine T_ren [(11, 11), (13, 13), (254, 254), (494, 494), (654, 654), (4825, 736)] rfl rfl rfl (by rw [hF]; rfl) ?_
    refine T_loop ?_
    obtain ⟨u0, hl0, hm⟩ := bindS hm
    refine TR_forL2 p0.Code (m_impl_Annotated_without_L0 p1) (fun (s0 : List Instr) => s0) (fun n0 (s0 : List Instr) => ⟨[(2, .ptr 11 0 0), (3, .cp [.sl 1 (List.map a_bool p1)]), (4, .ptr 13 0 0), (5, .ptr 654 0 0), (6, .fn (.func 155) [] [.cp [.sl 1 (List.map a_bool p1)]]), (20, .sl 2 (List.map a_Instr p0.Code)), (21, .int .i64 (p0.Code.length : Int)), (22, .int .i64 (n0 : Int))], [(11, .box [.sl 2 (List.map a_Term p0.Pre), .sl 2 (List.map a_Term p0.Post), .sl 2 (List.map a_Instr p0.Code), .sl 2 (List.map a_Point p0.Points)]), (13, .box [.snil, .snil, .snil, .snil]), (254, .arr ⟨false, true⟩ 2 184 (List.map a_Term j0.1)), (494, .arr ⟨false, true⟩ 2 184 (List.map a_Term j0.2)), (654, .box [.ow 254, .ow 494, .ow 736, .snil]), (736, .arr ⟨false, false⟩ 2 40 (List.map a_Instr s0))]⟩) (fun u0 => .exit 0) (fun u0 => ⟨[(2, .ptr 11 0 0), (4, .ptr 13 0 0), (5, .ptr 654 0 0), (6, .fn (.func 155) [] [.cp [.sl 1 (List.map a_bool p1)]])], [(11, .box [.sl 2 (List.map a_Term p0.Pre), .sl 2 (List.map a_Term p0.Post), .sl 2 (List.map a_Instr p0.Code), .sl 2 (List.map a_Point p0.Points)]), (13, .box [.snil, .snil, .snil, .snil]), (254, .arr ⟨false, true⟩ 2 184 (List.map a_Term j0.1)), (494, .arr ⟨false, true⟩ 2 184 (List.map a_Term j0.2)), (654, .box [.ow 254, .ow 494, .ow 736, .snil]), (736, .arr ⟨false, false⟩ 2 40 (List.map a_Instr u0))]⟩) (fun u0 => m_impl_Annotated_without_A0 p0 p1 j0 u0 = some out) hl0 hm (fun u0 hm => ?_) (fun hx0 s0 hm => ?_) (fun hx0 n0 x0 s0 c0 hxn0 hlt0 hm hc0 => ?_)
    · unfold m_impl_Annotated_without_A0 at hm
      refine T_seq ?_
      refine T_seq ?_
      refine T_region ?_
      refine TL_pure rfl rfl rfl rfl (op_fieldAddr fa69_3 rfl rfl) ?_
      refine TL_pure rfl rfl rfl rfl (op_load_one ag67 rfl rfl) ?_
      refine TL_pure rfl rfl rfl rfl (op_lenT Try.underlying67 rfl (List.length_map _)) ?_
      refine TL_fact (fun _ _ _ hr => RelP.slLen (i := 49) rfl hr) (fun hlen50 => ?_)
      rw [List.length_map] at hlen50
      refine TL_pure rfl rfl rfl rfl (op_move rfl) ?_
      refine TL_nil ?_
      refine T_block ?_
      refine T_ownNilBox 654 3 4824 ⟨false, true⟩ 81 rfl rfl rfl (sz := 2) rfl rfl rfl rfl ?_
      refine T_keepH [4, 5, 6, 49, 50, 51] [13, 254, 494, 654, 736, 4824] rfl rfl rfl rfl (by rw [hF]; rfl) ?_
      refine T_ren [(13, 13), (254, 254), (494, 494), (654, 654), (736, 736), (4824, 1942)] rfl rfl rfl (by rw [hF]; rfl) ?_
      refine T_loop ?_
      obtain ⟨u1, hl1, hm⟩ := bindS hm
      refine TR_forL2 p0.Points (m_impl_Annotated_without_L1 p1) (fun (s1 : List Point) => s1) (fun n1 (s1 : List Point) => ⟨[(4, .ptr 13 0 0), (5, .ptr 654 0 0), (6, .fn (.func 155) [] [.cp [.sl 1 (List.map a_bool p1)]]), (49, .sl 2 (List.map a_Point p0.Points)), (50, .int .i64 (p0.Points.length : Int)), (51, .int .i64 (n1 : Int))], [(13, .box [.snil, .snil, .snil, .snil]), (254, .arr ⟨false, true⟩ 2 184 (List.map a_Term j0.1)), (494, .arr ⟨false, true⟩ 2 184 (List.map a_Term j0.2)), (654, .box [.ow 254, .ow 494, .ow 736, .ow 1942]), (736, .arr ⟨false, false⟩ 2 40 (List.map a_Instr u0)), (1942, .arr ⟨false, true⟩ 2 81 (List.map a_Point s1))]⟩) (fun u1 => .exit 2) (fun u1 => ⟨[(4, .ptr 13 0 0), (5, .ptr 654 0 0)], [(13, .box [.snil, .snil, .snil, .snil]), (254, .arr ⟨false, true⟩ 2 184 (List.map a_Term j0.1)), (494, .arr ⟨false, true⟩ 2 184 (List.map a_Term j0.2)), (654, .box [.ow 254, .ow 494, .ow 736, .ow 1942]), (736, .arr ⟨false, false⟩ 2 40 (List.map a_Instr u0)), (1942, .arr ⟨false, true⟩ 2 81 (List.map a_Point u1))]⟩) (fun u1 => m_impl_Annotated_without_A1 j0 u0 u1 = some out) hl1 hm (fun u1 hm => ?_) (fun hx1 s1 hm => ?_) (fun hx1 n1 x1 s1 c1 hxn1 hlt1 hm hc1 => ?_)
      · unfold m_impl_Annotated_without_A1 at hm
        refine T_seq ?_
        refine T_region ?_
        refine TL_pure rfl rfl rfl rfl (op_load_agg ag69 sz69 rfl rfl rfl) ?_
        refine TL_store_box sz69 rfl rfl rfl rfl rfl rfl rfl rfl rfl ?_
        refine TL_nil ?_
        refine T_keepH [4] [13, 254, 494, 736, 1942] rfl rfl rfl rfl (by rw [hF]; rfl) ?_
        refine T_deepen 736 (p' := false) (List.map a_Instr u0) (by rw [hF]; rfl) rfl (ElR.map (f := a_Instr) (g := a_Instr) (fun _ => ⟨⟨rfl, rfl⟩, ⟨⟨rfl, rfl⟩, trivial⟩⟩) u0) rfl rfl rfl ?_
        refine T_ren [(13, 13), (254, 1000), (494, 1001), (736, 1002), (1942, 1003)] rfl rfl rfl (by rw [hF]; rfl) ?_
        refine T_ret ?_
        obtain rfl := someI hm
        refine ⟨[_], [1000, 1001, 1002, 1003], ⟨⟨_, _, rfl, rfl, .inr ⟨ag69, _, _, sz69, rfl, rfl⟩⟩, trivial⟩, ?_, rfl, rfl, rfl, rfl⟩
        rfl
      · refine T_seq ?_
        refine T_region ?_
        refine TL_pure rfl rfl rfl rfl (op_lss rfl rfl) ?_
        refine TL_nil ?_
        refine T_seq ?_
        refine T_if_false rfl (decide_eq_false (by simp)) ?_
        refine T_keepH [4, 5] [13, 254, 494, 654, 736, 1942] rfl rfl rfl rfl (by rw [hF]; rfl) ?_
        refine T_exit ?_
        exact hx1 s1 hm
      · unfold m_impl_Annotated_without_L1 at hm
        refine T_seq ?_
        refine T_region ?_
        refine TL_pure rfl rfl rfl rfl (op_lss rfl rfl) ?_
        refine TL_nil ?_
        refine T_seq ?_
        refine T_if_true rfl (decide_eq_true (Int.ofNat_lt.2 hlt1)) ?_
        refine T_skip ?_
        refine T_seq ?_
        refine T_block ?_
        refine T_seq ?_
        refine T_region ?_
        refine TL_pure rfl rfl rfl rfl (op_index_sl el67 rfl rfl rfl (get_map hxn1) rfl) ?_
        refine TL_pure rfl rfl rfl rfl (op_load_agg ag81 sz81 rfl rfl rfl) ?_
        refine TL_alloc 3463 z81 rfl rfl rfl rfl rfl rfl rfl ?_
        refine TL_store_box sz81 rfl rfl rfl rfl rfl rfl rfl rfl rfl ?_
        refine TL_nil ?_
        refine T_drawZ [13, 14, 16] mix (by kernel_rfl) rfl ?_
        obtain ⟨r62, hr62, hm⟩ := bindS hm
        obtain ⟨r66, hr66, hm⟩ := bindS hm
        obtain ⟨q69, hq69, hm⟩ := bindS hm
        refine TZ_pure 0 (by kernel_rfl) rfl rfl rfl rfl rfl (op_fieldAddr fa69_3 rfl rfl) ?_
        refine TZ_pure 2 (by kernel_rfl) rfl rfl rfl rfl rfl (op_fieldAddr fa81_0 rfl rfl) ?_
        refine TZ_pure 4 (by kernel_rfl) rfl rfl rfl rfl rfl (op_move rfl) ?_
        refine TZ_pure 5 (by kernel_rfl) rfl rfl rfl rfl rfl (op_fieldAddr fa81_0 rfl rfl) ?_
        refine TZ_pure 9 (by kernel_rfl) rfl rfl rfl rfl rfl (op_fieldAddr fa81_1 rfl rfl) ?_
        refine TZ_cut 8 [true, true, true, true, true, true, true, true, false, true, false, false, false, false, false, false, false] ⟨[(4, .ptr 13 0 0), (5, .ptr 654 0 0), (6, .fn (.func 155) [] [.cp [.sl 1 (List.map a_bool p1)]]), (10, .ptr 3463 0 0), (49, .sl 2 (List.map a_Point p0.Points)), (50, .int .i64 (p0.Points.length : Int)), (51, .int .i64 (n1 : Int)), (52, .bool (decide ((n1 : Int) < (p0.Points.length : Int)))), (53, .cp [.int .i64 x1.At, .sl 2 (List.map a_Term x1.Facts)]), (54, .agg [.int .i64 x1.At, .sl 2 (List.map a_Term x1.Facts)]), (55, .ptr 654 0 3), (56, .ow 1942), (57, .ptr 3463 0 0), (58, .int .i64 x1.At), (59, .fn (.func 155) [] [.cp [.sl 1 (List.map a_bool p1)]]), (60, .ptr 3463 0 0), (61, .int .i64 x1.At), (62, .int .i64 r62), (64, .ptr 3463 0 1)], [(13, .box [.snil, .snil, .snil, .snil]), (254, .arr ⟨false, true⟩ 2 184 (List.map a_Term j0.1)), (494, .arr ⟨false, true⟩ 2 184 (List.map a_Term j0.2)), (654, .box [.ow 254, .ow 494, .ow 736, .ow 1942]), (736, .arr ⟨false, false⟩ 2 40 (List.map a_Instr u0)), (1942, .arr ⟨false, true⟩ 2 81 (List.map a_Point s1)), (3463, .box [.int .i64 x1.At, .sl 2 (List.map a_Term x1.Facts)])]⟩ ?_ (fun hS3463_0 => ?_)
        · refine TZ_pure 8 (by kernel_rfl) rfl rfl rfl rfl rfl (op_subW rfl rfl) ?_
          refine TZ_one 10 (by kernel_rfl) rfl ?_
          refine TL_pure rfl rfl rfl rfl (op_load_one ag66 rfl rfl) ?_
          refine TL_nil ?_
          refine TZ_one 11 (by kernel_rfl) rfl ?_
          refine TL_callO [(1000, 4424)] (c_impl_ownTerms x1.Facts r66 hr66) Try.call106 rfl rfl rfl rfl rfl rfl rfl rfl rfl rfl rfl rfl rfl ?_
          refine TL_nil ?_
          refine TZ_pure 12 (by kernel_rfl) rfl rfl rfl rfl rfl (op_buildP pl81 z81 rfl rfl rfl rfl rfl) ?_
          refine TZ_one 13 (by kernel_rfl) rfl ?_
          refine TL_buildSliceD (ids := [4424]) (es := List.map a_Point [(Point.mk (w64 (x1.At - r62)) r66)]) 4584 el67 z81 rfl rfl rfl rfl rfl rfl (by rw [hF]; intro j hj; simp only [List.mem_cons, List.not_mem_nil, or_false] at hj; rcases hj with rfl <;> rfl) rfl rfl rfl rfl rfl rfl ?_
          refine TL_nil ?_
          refine TZ_one 14 (by kernel_rfl) rfl ?_
          refine TL_appendDT (f := a_Point) (a := s1) (b := [(Point.mk (w64 (x1.At - r62)) r66)]) el67 z81 rfl rfl rfl rfl rfl rfl rfl rfl (by rw [hF]; rfl) (capI_spec hq69) rfl rfl rfl rfl rfl ?_
          refine TL_nil ?_
          refine TZ_pure 15 (by kernel_rfl) rfl rfl rfl rfl rfl (op_fieldAddr fa69_3 rfl rfl) ?_
          refine TZ_one 16 (by kernel_rfl) rfl ?_
          refine TL_store_box sz67 rfl rfl rfl rfl rfl rfl rfl rfl rfl ?_
          refine TL_nil ?_
          refine TZ_done (by kernel_rfl) ?_
          refine T_region ?_
          refine TL_pure rfl rfl rfl rfl (op_addN rfl rfl (Nat.lt_of_lt_of_le hlt1 hlen50)) ?_
          refine TL_pure rfl rfl rfl rfl (op_move rfl) ?_
          refine TL_nil ?_
          refine TR_keepH [4, 5, 6, 49, 50, 51] [13, 254, 494, 654, 736, 1942] rfl rfl rfl rfl (by rw [hF]; rfl) ?_
          obtain rfl := someI hm
          have hn := CtlOK_next hc1
          exact hn _ rfl
        refine TZ_cut 8 [true, true, true, true, true, true, true, false, false, true, true, false, false, false, false, false, false] ⟨[(4, .ptr 13 0 0), (5, .ptr 654 0 0), (6, .fn (.func 155) [] [.cp [.sl 1 (List.map a_bool p1)]]), (10, .ptr 3463 0 0), (49, .sl 2 (List.map a_Point p0.Points)), (50, .int .i64 (p0.Points.length : Int)), (51, .int .i64 (n1 : Int)), (52, .bool (decide ((n1 : Int) < (p0.Points.length : Int)))), (53, .cp [.int .i64 x1.At, .sl 2 (List.map a_Term x1.Facts)]), (54, .agg [.int .i64 x1.At, .sl 2 (List.map a_Term x1.Facts)]), (55, .ptr 654 0 3), (56, .ow 1942), (57, .ptr 3463 0 0), (58, .int .i64 x1.At), (59, .fn (.func 155) [] [.cp [.sl 1 (List.map a_bool p1)]]), (60, .ptr 3463 0 0), (61, .int .i64 x1.At), (64, .ptr 3463 0 1), (65, .sl 2 (List.map a_Term x1.Facts))], [(13, .box [.snil, .snil, .snil, .snil]), (254, .arr ⟨false, true⟩ 2 184 (List.map a_Term j0.1)), (494, .arr ⟨false, true⟩ 2 184 (List.map a_Term j0.2)), (654, .box [.ow 254, .ow 494, .ow 736, .ow 1942]), (736, .arr ⟨false, false⟩ 2 40 (List.map a_Instr u0)), (1942, .arr ⟨false, true⟩ 2 81 (List.map a_Point s1)), (3463, .box [.int .i64 x1.At, .sl 2 (List.map a_Term x1.Facts)])]⟩ ?_ (fun hS3463_1 => ?_)
        · refine TZ_one 7 (by kernel_rfl) rfl ?_
          refine TL_callV rfl (c_impl_Annotated_without_1 x1.At p1 r62 hr62) Try.call155 rfl rfl rfl rfl rfl ?_
          refine TL_nil ?_
          refine TZ_pure 8 (by kernel_rfl) rfl rfl rfl rfl rfl (op_subW rfl rfl) ?_
          refine TZ_one 11 (by kernel_rfl) rfl ?_
          refine TL_callO [(1000, 4424)] (c_impl_ownTerms x1.Facts r66 hr66) Try.call106 rfl rfl rfl rfl rfl rfl rfl rfl rfl rfl rfl rfl rfl ?_
          refine TL_nil ?_
          refine TZ_pure 12 (by kernel_rfl) rfl rfl rfl rfl rfl (op_buildP pl81 z81 rfl rfl rfl rfl rfl) ?_
          refine TZ_one 13 (by kernel_rfl) rfl ?_
          refine TL_buildSliceD (ids := [4424]) (es := List.map a_Point [(Point.mk (w64 (x1.At - r62)) r66)]) 4584 el67 z81 rfl rfl rfl rfl rfl rfl (by rw [hF]; intro j hj; simp only [List.mem_cons, List.not_mem_nil, or_false] at hj; rcases hj with rfl <;> rfl) rfl rfl rfl rfl rfl rfl ?_
          refine TL_nil ?_
          refine TZ_one 14 (by kernel_rfl) rfl ?_
          refine TL_appendDT (f := a_Point) (a := s1) (b := [(Point.mk (w64 (x1.At - r62)) r66)]) el67 z81 rfl rfl rfl rfl rfl rfl rfl rfl (by rw [hF]; rfl) (capI_spec hq69) rfl rfl rfl rfl rfl ?_
          refine TL_nil ?_
          refine TZ_pure 15 (by kernel_rfl) rfl rfl rfl rfl rfl (op_fieldAddr fa69_3 rfl rfl) ?_
          refine TZ_one 16 (by kernel_rfl) rfl ?_
          refine TL_store_box sz67 rfl rfl rfl rfl rfl rfl rfl rfl rfl ?_
          refine TL_nil ?_
          refine TZ_done (by kernel_rfl) ?_
          refine T_region ?_
          refine TL_pure rfl rfl rfl rfl (op_addN rfl rfl (Nat.lt_of_lt_of_le hlt1 hlen50)) ?_
          refine TL_pure rfl rfl rfl rfl (op_move rfl) ?_
          refine TL_nil ?_
          refine TR_keepH [4, 5, 6, 49, 50, 51] [13, 254, 494, 654, 736, 1942] rfl rfl rfl rfl (by rw [hF]; rfl) ?_
          obtain rfl := someI hm
          have hn := CtlOK_next hc1
          exact hn _ rfl
        refine TZ_cut 9 [true, true, true, true, true, true, true, false, false, true, false, false, false, false, false, false, false] ⟨[(4, .ptr 13 0 0), (5, .ptr 654 0 0), (6, .fn (.func 155) [] [.cp [.sl 1 (List.map a_bool p1)]]), (10, .ptr 3463 0 0), (49, .sl 2 (List.map a_Point p0.Points)), (50, .int .i64 (p0.Points.length : Int)), (51, .int .i64 (n1 : Int)), (52, .bool (decide ((n1 : Int) < (p0.Points.length : Int)))), (53, .cp [.int .i64 x1.At, .sl 2 (List.map a_Term x1.Facts)]), (54, .agg [.int .i64 x1.At, .sl 2 (List.map a_Term x1.Facts)]), (55, .ptr 654 0 3), (56, .ow 1942), (57, .ptr 3463 0 0), (58, .int .i64 x1.At), (59, .fn (.func 155) [] [.cp [.sl 1 (List.map a_bool p1)]]), (60, .ptr 3463 0 0), (61, .int .i64 x1.At), (64, .ptr 3463 0 1)], [(13, .box [.snil, .snil, .snil, .snil]), (254, .arr ⟨false, true⟩ 2 184 (List.map a_Term j0.1)), (494, .arr ⟨false, true⟩ 2 184 (List.map a_Term j0.2)), (654, .box [.ow 254, .ow 494, .ow 736, .ow 1942]), (736, .arr ⟨false, false⟩ 2 40 (List.map a_Instr u0)), (1942, .arr ⟨false, true⟩ 2 81 (List.map a_Point s1)), (3463, .box [.int .i64 x1.At, .sl 2 (List.map a_Term x1.Facts)])]⟩ ?_ (fun hS3463_2 => ?_)
        · refine TZ_each [7, 10] (by kernel_rfl) rfl ?_
          refine ⟨?_, ?_⟩
          · refine ⟨_, rfl, ?_⟩
            refine TL_callV rfl (c_impl_Annotated_without_1 x1.At p1 r62 hr62) Try.call155 rfl rfl rfl rfl rfl ?_
            refine TL_nil ?_
            refine TZ_keepH [4, 5, 6, 10, 49, 50, 51, 52, 53, 54, 55, 56, 57, 58, 59, 60, 61, 62, 64] [13, 254, 494, 654, 736, 1942, 3463] rfl rfl rfl rfl (by rw [hF]; rfl) ?_
            exact hS3463_0
          · refine ⟨_, rfl, ?_⟩
            refine TL_pure rfl rfl rfl rfl (op_load_one ag66 rfl rfl) ?_
            refine TL_nil ?_
            refine TZ_keepH [4, 5, 6, 10, 49, 50, 51, 52, 53, 54, 55, 56, 57, 58, 59, 60, 61, 64, 65] [13, 254, 494, 654, 736, 1942, 3463] rfl rfl rfl rfl (by rw [hF]; rfl) ?_
            exact hS3463_1
        refine TZ_cut 9 [true, true, true, true, true, true, false, false, false, true, true, false, false, false, false, false, false] ⟨[(4, .ptr 13 0 0), (5, .ptr 654 0 0), (6, .fn (.func 155) [] [.cp [.sl 1 (List.map a_bool p1)]]), (10, .ptr 3463 0 0), (49, .sl 2 (List.map a_Point p0.Points)), (50, .int .i64 (p0.Points.length : Int)), (51, .int .i64 (n1 : Int)), (52, .bool (decide ((n1 : Int) < (p0.Points.length : Int)))), (53, .cp [.int .i64 x1.At, .sl 2 (List.map a_Term x1.Facts)]), (54, .agg [.int .i64 x1.At, .sl 2 (List.map a_Term x1.Facts)]), (55, .ptr 654 0 3), (56, .ow 1942), (57, .ptr 3463 0 0), (58, .int .i64 x1.At), (59, .fn (.func 155) [] [.cp [.sl 1 (List.map a_bool p1)]]), (60, .ptr 3463 0 0), (64, .ptr 3463 0 1), (65, .sl 2 (List.map a_Term x1.Facts))], [(13, .box [.snil, .snil, .snil, .snil]), (254, .arr ⟨false, true⟩ 2 184 (List.map a_Term j0.1)), (494, .arr ⟨false, true⟩ 2 184 (List.map a_Term j0.2)), (654, .box [.ow 254, .ow 494, .ow 736, .ow 1942]), (736, .arr ⟨false, false⟩ 2 40 (List.map a_Instr u0)), (1942, .arr ⟨false, true⟩ 2 81 (List.map a_Point s1)), (3463, .box [.int .i64 x1.At, .sl 2 (List.map a_Term x1.Facts)])]⟩ ?_ (fun hS3463_3 => ?_)
        · refine TZ_one 6 (by kernel_rfl) rfl ?_
          refine TL_pure rfl rfl rfl rfl (op_load_one ag2 rfl rfl) ?_
          refine TL_nil ?_
          refine TZ_one 7 (by kernel_rfl) rfl ?_
          refine TL_callV rfl (c_impl_Annotated_without_1 x1.At p1 r62 hr62) Try.call155 rfl rfl rfl rfl rfl ?_
          refine TL_nil ?_
          refine TZ_pure 8 (by kernel_rfl) rfl rfl rfl rfl rfl (op_subW rfl rfl) ?_
          refine TZ_one 11 (by kernel_rfl) rfl ?_
          refine TL_callO [(1000, 4424)] (c_impl_ownTerms x1.Facts r66 hr66) Try.call106 rfl rfl rfl rfl rfl rfl rfl rfl rfl rfl rfl rfl rfl ?_
          refine TL_nil ?_
          refine TZ_pure 12 (by kernel_rfl) rfl rfl rfl rfl rfl (op_buildP pl81 z81 rfl rfl rfl rfl rfl) ?_
          refine TZ_one 13 (by kernel_rfl) rfl ?_
          refine TL_buildSliceD (ids := [4424]) (es := List.map a_Point [(Point.mk (w64 (x1.At - r62)) r66)]) 4584 el67 z81 rfl rfl rfl rfl rfl rfl (by rw [hF]; intro j hj; simp only [List.mem_cons, List.not_mem_nil, or_false] at hj; rcases hj with rfl <;> rfl) rfl rfl rfl rfl rfl rfl ?_
          refine TL_nil ?_
          refine TZ_one 14 (by kernel_rfl) rfl ?_
          refine TL_appendDT (f := a_Point) (a := s1) (b := [(Point.mk (w64 (x1.At - r62)) r66)]) el67 z81 rfl rfl rfl rfl rfl rfl rfl rfl (by rw [hF]; rfl) (capI_spec hq69) rfl rfl rfl rfl rfl ?_
          refine TL_nil ?_
          refine TZ_pure 15 (by kernel_rfl) rfl rfl rfl rfl rfl (op_fieldAddr fa69_3 rfl rfl) ?_
          refine TZ_one 16 (by kernel_rfl) rfl ?_
          refine TL_store_box sz67 rfl rfl rfl rfl rfl rfl rfl rfl rfl ?_
          refine TL_nil ?_
          refine TZ_done (by kernel_rfl) ?_
          refine T_region ?_
          refine TL_pure rfl rfl rfl rfl (op_addN rfl rfl (Nat.lt_of_lt_of_le hlt1 hlen50)) ?_
          refine TL_pure rfl rfl rfl rfl (op_move rfl) ?_
          refine TL_nil ?_
          refine TR_keepH [4, 5, 6, 49, 50, 51] [13, 254, 494, 654, 736, 1942] rfl rfl rfl rfl (by rw [hF]; rfl) ?_
          obtain rfl := someI hm
          have hn := CtlOK_next hc1
          exact hn _ rfl
        refine TZ_cut 10 [true, true, true, true, true, true, false, false, false, true, false, false, false, false, false, false, false] ⟨[(4, .ptr 13 0 0), (5, .ptr 654 0 0), (6, .fn (.func 155) [] [.cp [.sl 1 (List.map a_bool p1)]]), (10, .ptr 3463 0 0), (49, .sl 2 (List.map a_Point p0.Points)), (50, .int .i64 (p0.Points.length : Int)), (51, .int .i64 (n1 : Int)), (52, .bool (decide ((n1 : Int) < (p0.Points.length : Int)))), (53, .cp [.int .i64 x1.At, .sl 2 (List.map a_Term x1.Facts)]), (54, .agg [.int .i64 x1.At, .sl 2 (List.map a_Term x1.Facts)]), (55, .ptr 654 0 3), (56, .ow 1942), (57, .ptr 3463 0 0), (58, .int .i64 x1.At), (59, .fn (.func 155) [] [.cp [.sl 1 (List.map a_bool p1)]]), (60, .ptr 3463 0 0), (64, .ptr 3463 0 1)], [(13, .box [.snil, .snil, .snil, .snil]), (254, .arr ⟨false, true⟩ 2 184 (List.map a_Term j0.1)), (494, .arr ⟨false, true⟩ 2 184 (List.map a_Term j0.2)), (654, .box [.ow 254, .ow 494, .ow 736, .ow 1942]), (736, .arr ⟨false, false⟩ 2 40 (List.map a_Instr u0)), (1942, .arr ⟨false, true⟩ 2 81 (List.map a_Point s1)), (3463, .box [.int .i64 x1.At, .sl 2 (List.map a_Term x1.Facts)])]⟩ ?_ (fun hS3463_4 => ?_)
        · refine TZ_each [6, 10] (by kernel_rfl) rfl ?_
          refine ⟨?_, ?_⟩
          · refine ⟨_, rfl, ?_⟩
            refine TL_pure rfl rfl rfl rfl (op_load_one ag2 rfl rfl) ?_
            refine TL_nil ?_
            refine TZ_keepH [4, 5, 6, 10, 49, 50, 51, 52, 53, 54, 55, 56, 57, 58, 59, 60, 61, 64] [13, 254, 494, 654, 736, 1942, 3463] rfl rfl rfl rfl (by rw [hF]; rfl) ?_
            exact hS3463_2
          · refine ⟨_, rfl, ?_⟩
            refine TL_pure rfl rfl rfl rfl (op_load_one ag66 rfl rfl) ?_
            refine TL_nil ?_
            refine TZ_keepH [4, 5, 6, 10, 49, 50, 51, 52, 53, 54, 55, 56, 57, 58, 59, 60, 64, 65] [13, 254, 494, 654, 736, 1942, 3463] rfl rfl rfl rfl (by rw [hF]; rfl) ?_
            exact hS3463_3
        refine TZ_cut 7 [true, true, true, true, true, true, true, true, false, true, true, false, false, false, false, false, false] ⟨[(4, .ptr 13 0 0), (5, .ptr 654 0 0), (6, .fn (.func 155) [] [.cp [.sl 1 (List.map a_bool p1)]]), (10, .ptr 3463 0 0), (49, .sl 2 (List.map a_Point p0.Points)), (50, .int .i64 (p0.Points.length : Int)), (51, .int .i64 (n1 : Int)), (52, .bool (decide ((n1 : Int) < (p0.Points.length : Int)))), (53, .cp [.int .i64 x1.At, .sl 2 (List.map a_Term x1.Facts)]), (54, .agg [.int .i64 x1.At, .sl 2 (List.map a_Term x1.Facts)]), (55, .ptr 654 0 3), (56, .ow 1942), (57, .ptr 3463 0 0), (58, .int .i64 x1.At), (59, .fn (.func 155) [] [.cp [.sl 1 (List.map a_bool p1)]]), (60, .ptr 3463 0 0), (61, .int .i64 x1.At), (62, .int .i64 r62), (64, .ptr 3463 0 1), (65, .sl 2 (List.map a_Term x1.Facts))], [(13, .box [.snil, .snil, .snil, .snil]), (254, .arr ⟨false, true⟩ 2 184 (List.map a_Term j0.1)), (494, .arr ⟨false, true⟩ 2 184 (List.map a_Term j0.2)), (654, .box [.ow 254, .ow 494, .ow 736, .ow 1942]), (736, .arr ⟨false, false⟩ 2 40 (List.map a_Instr u0)), (1942, .arr ⟨false, true⟩ 2 81 (List.map a_Point s1)), (3463, .box [.int .i64 x1.At, .sl 2 (List.map a_Term x1.Facts)])]⟩ ?_ (fun hS3463_5 => ?_)
        · refine TZ_pure 8 (by kernel_rfl) rfl rfl rfl rfl rfl (op_subW rfl rfl) ?_
          refine TZ_one 11 (by kernel_rfl) rfl ?_
          refine TL_callO [(1000, 4424)] (c_impl_ownTerms x1.Facts r66 hr66) Try.call106 rfl rfl rfl rfl rfl rfl rfl rfl rfl rfl rfl rfl rfl ?_
          refine TL_nil ?_
          refine TZ_pure 12 (by kernel_rfl) rfl rfl rfl rfl rfl (op_buildP pl81 z81 rfl rfl rfl rfl rfl) ?_
          refine TZ_one 13 (by kernel_rfl) rfl ?_
          refine TL_buildSliceD (ids := [4424]) (es := List.map a_Point [(Point.mk (w64 (x1.At - r62)) r66)]) 4584 el67 z81 rfl rfl rfl rfl rfl rfl (by rw [hF]; intro j hj; simp only [List.mem_cons, List.not_mem_nil, or_false] at hj; rcases hj with rfl <;> rfl) rfl rfl rfl rfl rfl rfl ?_
          refine TL_nil ?_
          refine TZ_one 14 (by kernel_rfl) rfl ?_
          refine TL_appendDT (f := a_Point) (a := s1) (b := [(Point.mk (w64 (x1.At - r62)) r66)]) el67 z81 rfl rfl rfl rfl rfl rfl rfl rfl (by rw [hF]; rfl) (capI_spec hq69) rfl rfl rfl rfl rfl ?_
          refine TL_nil ?_
          refine TZ_pure 15 (by kernel_rfl) rfl rfl rfl rfl rfl (op_fieldAddr fa69_3 rfl rfl) ?_
          refine TZ_one 16 (by kernel_rfl) rfl ?_
          refine TL_store_box sz67 rfl rfl rfl rfl rfl rfl rfl rfl rfl ?_
          refine TL_nil ?_
          refine TZ_done (by kernel_rfl) ?_
          refine T_region ?_
          refine TL_pure rfl rfl rfl rfl (op_addN rfl rfl (Nat.lt_of_lt_of_le hlt1 hlen50)) ?_
          refine TL_pure rfl rfl rfl rfl (op_move rfl) ?_
          refine TL_nil ?_
          refine TR_keepH [4, 5, 6, 49, 50, 51] [13, 254, 494, 654, 736, 1942] rfl rfl rfl rfl (by rw [hF]; rfl) ?_
          obtain rfl := someI hm
          have hn := CtlOK_next hc1
          exact hn _ rfl
        refine TZ_cut 7 [true, true, true, false, true, true, true, true, false, true, true, true, false, false, false, false, false] ⟨[(4, .ptr 13 0 0), (5, .ptr 654 0 0), (6, .fn (.func 155) [] [.cp [.sl 1 (List.map a_bool p1)]]), (10, .ptr 3463 0 0), (49, .sl 2 (List.map a_Point p0.Points)), (50, .int .i64 (p0.Points.length : Int)), (51, .int .i64 (n1 : Int)), (52, .bool (decide ((n1 : Int) < (p0.Points.length : Int)))), (53, .cp [.int .i64 x1.At, .sl 2 (List.map a_Term x1.Facts)]), (54, .agg [.int .i64 x1.At, .sl 2 (List.map a_Term x1.Facts)]), (55, .ptr 654 0 3), (56, .ow 1942), (57, .ptr 3463 0 0), (59, .fn (.func 155) [] [.cp [.sl 1 (List.map a_bool p1)]]), (60, .ptr 3463 0 0), (61, .int .i64 x1.At), (62, .int .i64 r62), (64, .ptr 3463 0 1), (65, .sl 2 (List.map a_Term x1.Facts)), (66, .ow 4424)], [(13, .box [.snil, .snil, .snil, .snil]), (254, .arr ⟨false, true⟩ 2 184 (List.map a_Term j0.1)), (494, .arr ⟨false, true⟩ 2 184 (List.map a_Term j0.2)), (654, .box [.ow 254, .ow 494, .ow 736, .ow 1942]), (736, .arr ⟨false, false⟩ 2 40 (List.map a_Instr u0)), (1942, .arr ⟨false, true⟩ 2 81 (List.map a_Point s1)), (3463, .box [.int .i64 x1.At, .sl 2 (List.map a_Term x1.Facts)]), (4424, .arr ⟨false, true⟩ 2 184 (List.map a_Term r66))]⟩ ?_ (fun hS3463_6 => ?_)
        · refine TZ_one 3 (by kernel_rfl) rfl ?_
          refine TL_pure rfl rfl rfl rfl (op_load_one ag2 rfl rfl) ?_
          refine TL_nil ?_
          refine TZ_pure 8 (by kernel_rfl) rfl rfl rfl rfl rfl (op_subW rfl rfl) ?_
          refine TZ_pure 12 (by kernel_rfl) rfl rfl rfl rfl rfl (op_buildP pl81 z81 rfl rfl rfl rfl rfl) ?_
          refine TZ_one 13 (by kernel_rfl) rfl ?_
          refine TL_buildSliceD (ids := [4424]) (es := List.map a_Point [(Point.mk (w64 (x1.At - r62)) r66)]) 4584 el67 z81 rfl rfl rfl rfl rfl rfl (by rw [hF]; intro j hj; simp only [List.mem_cons, List.not_mem_nil, or_false] at hj; rcases hj with rfl <;> rfl) rfl rfl rfl rfl rfl rfl ?_
          refine TL_nil ?_
          refine TZ_one 14 (by kernel_rfl) rfl ?_
          refine TL_appendDT (f := a_Point) (a := s1) (b := [(Point.mk (w64 (x1.At - r62)) r66)]) el67 z81 rfl rfl rfl rfl rfl rfl rfl rfl (by rw [hF]; rfl) (capI_spec hq69) rfl rfl rfl rfl rfl ?_
          refine TL_nil ?_
          refine TZ_pure 15 (by kernel_rfl) rfl rfl rfl rfl rfl (op_fieldAddr fa69_3 rfl rfl) ?_
          refine TZ_one 16 (by kernel_rfl) rfl ?_
          refine TL_store_box sz67 rfl rfl rfl rfl rfl rfl rfl rfl rfl ?_
          refine TL_nil ?_
          refine TZ_done (by kernel_rfl) ?_
          refine T_region ?_
          refine TL_pure rfl rfl rfl rfl (op_addN rfl rfl (Nat.lt_of_lt_of_le hlt1 hlen50)) ?_
          refine TL_pure rfl rfl rfl rfl (op_move rfl) ?_
          refine TL_nil ?_
          refine TR_keepH [4, 5, 6, 49, 50, 51] [13, 254, 494, 654, 736, 1942] rfl rfl rfl rfl (by rw [hF]; rfl) ?_
          obtain rfl := someI hm
          have hn := CtlOK_next hc1
          exact hn _ rfl
        refine TZ_cut 8 [true, true, true, false, true, true, true, true, false, true, true, false, false, false, false, false, false] ⟨[(4, .ptr 13 0 0), (5, .ptr 654 0 0), (6, .fn (.func 155) [] [.cp [.sl 1 (List.map a_bool p1)]]), (10, .ptr 3463 0 0), (49, .sl 2 (List.map a_Point p0.Points)), (50, .int .i64 (p0.Points.length : Int)), (51, .int .i64 (n1 : Int)), (52, .bool (decide ((n1 : Int) < (p0.Points.length : Int)))), (53, .cp [.int .i64 x1.At, .sl 2 (List.map a_Term x1.Facts)]), (54, .agg [.int .i64 x1.At, .sl 2 (List.map a_Term x1.Facts)]), (55, .ptr 654 0 3), (56, .ow 1942), (57, .ptr 3463 0 0), (59, .fn (.func 155) [] [.cp [.sl 1 (List.map a_bool p1)]]), (60, .ptr 3463 0 0), (61, .int .i64 x1.At), (62, .int .i64 r62), (64, .ptr 3463 0 1), (65, .sl 2 (List.map a_Term x1.Facts))], [(13, .box [.snil, .snil, .snil, .snil]), (254, .arr ⟨false, true⟩ 2 184 (List.map a_Term j0.1)), (494, .arr ⟨false, true⟩ 2 184 (List.map a_Term j0.2)), (654, .box [.ow 254, .ow 494, .ow 736, .ow 1942]), (736, .arr ⟨false, false⟩ 2 40 (List.map a_Instr u0)), (1942, .arr ⟨false, true⟩ 2 81 (List.map a_Point s1)), (3463, .box [.int .i64 x1.At, .sl 2 (List.map a_Term x1.Facts)])]⟩ ?_ (fun hS3463_7 => ?_)
        · refine TZ_each [3, 11] (by kernel_rfl) rfl ?_
          refine ⟨?_, ?_⟩
          · refine ⟨_, rfl, ?_⟩
            refine TL_pure rfl rfl rfl rfl (op_load_one ag2 rfl rfl) ?_
            refine TL_nil ?_
            refine TZ_keepH [4, 5, 6, 10, 49, 50, 51, 52, 53, 54, 55, 56, 57, 58, 59, 60, 61, 62, 64, 65] [13, 254, 494, 654, 736, 1942, 3463] rfl rfl rfl rfl (by rw [hF]; rfl) ?_
            exact hS3463_5
          · refine ⟨_, rfl, ?_⟩
            refine TL_callO [(1000, 4424)] (c_impl_ownTerms x1.Facts r66 hr66) Try.call106 rfl rfl rfl rfl rfl rfl rfl rfl rfl rfl rfl rfl rfl ?_
            refine TL_nil ?_
            refine TZ_keepH [4, 5, 6, 10, 49, 50, 51, 52, 53, 54, 55, 56, 57, 59, 60, 61, 62, 64, 65, 66] [13, 254, 494, 654, 736, 1942, 3463, 4424] rfl rfl rfl rfl (by rw [hF]; rfl) ?_
            exact hS3463_6
        refine TZ_cut 9 [true, true, true, false, true, true, true, true, false, true, false, false, false, false, false, false, false] ⟨[(4, .ptr 13 0 0), (5, .ptr 654 0 0), (6, .fn (.func 155) [] [.cp [.sl 1 (List.map a_bool p1)]]), (10, .ptr 3463 0 0), (49, .sl 2 (List.map a_Point p0.Points)), (50, .int .i64 (p0.Points.length : Int)), (51, .int .i64 (n1 : Int)), (52, .bool (decide ((n1 : Int) < (p0.Points.length : Int)))), (53, .cp [.int .i64 x1.At, .sl 2 (List.map a_Term x1.Facts)]), (54, .agg [.int .i64 x1.At, .sl 2 (List.map a_Term x1.Facts)]), (55, .ptr 654 0 3), (56, .ow 1942), (57, .ptr 3463 0 0), (59, .fn (.func 155) [] [.cp [.sl 1 (List.map a_bool p1)]]), (60, .ptr 3463 0 0), (61, .int .i64 x1.At), (62, .int .i64 r62), (64, .ptr 3463 0 1)], [(13, .box [.snil, .snil, .snil, .snil]), (254, .arr ⟨false, true⟩ 2 184 (List.map a_Term j0.1)), (494, .arr ⟨false, true⟩ 2 184 (List.map a_Term j0.2)), (654, .box [.ow 254, .ow 494, .ow 736, .ow 1942]), (736, .arr ⟨false, false⟩ 2 40 (List.map a_Instr u0)), (1942, .arr ⟨false, true⟩ 2 81 (List.map a_Point s1)), (3463, .box [.int .i64 x1.At, .sl 2 (List.map a_Term x1.Facts)])]⟩ ?_ (fun hS3463_8 => ?_)
        · refine TZ_each [3, 10] (by kernel_rfl) rfl ?_
          refine ⟨?_, ?_⟩
          · refine ⟨_, rfl, ?_⟩
            refine TL_pure rfl rfl rfl rfl (op_load_one ag2 rfl rfl) ?_
            refine TL_nil ?_
            refine TZ_keepH [4, 5, 6, 10, 49, 50, 51, 52, 53, 54, 55, 56, 57, 58, 59, 60, 61, 62, 64] [13, 254, 494, 654, 736, 1942, 3463] rfl rfl rfl rfl (by rw [hF]; rfl) ?_
            exact hS3463_0
          · refine ⟨_, rfl, ?_⟩
            refine TL_pure rfl rfl rfl rfl (op_load_one ag66 rfl rfl) ?_
            refine TL_nil ?_
            refine TZ_keepH [4, 5, 6, 10, 49, 50, 51, 52, 53, 54, 55, 56, 57, 59, 60, 61, 62, 64, 65] [13, 254, 494, 654, 736, 1942, 3463] rfl rfl rfl rfl (by rw [hF]; rfl) ?_
            exact hS3463_7
        refine TZ_cut 9 [true, true, true, false, true, true, true, false, false, true, true, false, false, false, false, false, false] ⟨[(4, .ptr 13 0 0), (5, .ptr 654 0 0), (6, .fn (.func 155) [] [.cp [.sl 1 (List.map a_bool p1)]]), (10, .ptr 3463 0 0), (49, .sl 2 (List.map a_Point p0.Points)), (50, .int .i64 (p0.Points.length : Int)), (51, .int .i64 (n1 : Int)), (52, .bool (decide ((n1 : Int) < (p0.Points.length : Int)))), (53, .cp [.int .i64 x1.At, .sl 2 (List.map a_Term x1.Facts)]), (54, .agg [.int .i64 x1.At, .sl 2 (List.map a_Term x1.Facts)]), (55, .ptr 654 0 3), (56, .ow 1942), (57, .ptr 3463 0 0), (59, .fn (.func 155) [] [.cp [.sl 1 (List.map a_bool p1)]]), (60, .ptr 3463 0 0), (61, .int .i64 x1.At), (64, .ptr 3463 0 1), (65, .sl 2 (List.map a_Term x1.Facts))], [(13, .box [.snil, .snil, .snil, .snil]), (254, .arr ⟨false, true⟩ 2 184 (List.map a_Term j0.1)), (494, .arr ⟨false, true⟩ 2 184 (List.map a_Term j0.2)), (654, .box [.ow 254, .ow 494, .ow 736, .ow 1942]), (736, .arr ⟨false, false⟩ 2 40 (List.map a_Instr u0)), (1942, .arr ⟨false, true⟩ 2 81 (List.map a_Point s1)), (3463, .box [.int .i64 x1.At, .sl 2 (List.map a_Term x1.Facts)])]⟩ ?_ (fun hS3463_9 => ?_)
        · refine TZ_each [3, 7] (by kernel_rfl) rfl ?_
          refine ⟨?_, ?_⟩
          · refine ⟨_, rfl, ?_⟩
            refine TL_pure rfl rfl rfl rfl (op_load_one ag2 rfl rfl) ?_
            refine TL_nil ?_
            refine TZ_keepH [4, 5, 6, 10, 49, 50, 51, 52, 53, 54, 55, 56, 57, 58, 59, 60, 61, 64, 65] [13, 254, 494, 654, 736, 1942, 3463] rfl rfl rfl rfl (by rw [hF]; rfl) ?_
            exact hS3463_1
          · refine ⟨_, rfl, ?_⟩
            refine TL_callV rfl (c_impl_Annotated_without_1 x1.At p1 r62 hr62) Try.call155 rfl rfl rfl rfl rfl ?_
            refine TL_nil ?_
            refine TZ_keepH [4, 5, 6, 10, 49, 50, 51, 52, 53, 54, 55, 56, 57, 59, 60, 61, 62, 64, 65] [13, 254, 494, 654, 736, 1942, 3463] rfl rfl rfl rfl (by rw [hF]; rfl) ?_
            exact hS3463_7
        refine TZ_cut 10 [true, true, true, false, true, true, true, false, false, true, false, false, false, false, false, false, false] ⟨[(4, .ptr 13 0 0), (5, .ptr 654 0 0), (6, .fn (.func 155) [] [.cp [.sl 1 (List.map a_bool p1)]]), (10, .ptr 3463 0 0), (49, .sl 2 (List.map a_Point p0.Points)), (50, .int .i64 (p0.Points.length : Int)), (51, .int .i64 (n1 : Int)), (52, .bool (decide ((n1 : Int) < (p0.Points.length : Int)))), (53, .cp [.int .i64 x1.At, .sl 2 (List.map a_Term x1.Facts)]), (54, .agg [.int .i64 x1.At, .sl 2 (List.map a_Term x1.Facts)]), (55, .ptr 654 0 3), (56, .ow 1942), (57, .ptr 3463 0 0), (59, .fn (.func 155) [] [.cp [.sl 1 (List.map a_bool p1)]]), (60, .ptr 3463 0 0), (61, .int .i64 x1.At), (64, .ptr 3463 0 1)], [(13, .box [.snil, .snil, .snil, .snil]), (254, .arr ⟨false, true⟩ 2 184 (List.map a_Term j0.1)), (494, .arr ⟨false, true⟩ 2 184 (List.map a_Term j0.2)), (654, .box [.ow 254, .ow 494, .ow 736, .ow 1942]), (736, .arr ⟨false, false⟩ 2 40 (List.map a_Instr u0)), (1942, .arr ⟨false, true⟩ 2 81 (List.map a_Point s1)), (3463, .box [.int .i64 x1.At, .sl 2 (List.map a_Term x1.Facts)])]⟩ ?_ (fun hS3463_10 => ?_)
        · refine TZ_each [3, 7, 10] (by kernel_rfl) rfl ?_
          refine ⟨?_, ?_, ?_⟩
          · refine ⟨_, rfl, ?_⟩
            refine TL_pure rfl rfl rfl rfl (op_load_one ag2 rfl rfl) ?_
            refine TL_nil ?_
            refine TZ_keepH [4, 5, 6, 10, 49, 50, 51, 52, 53, 54, 55, 56, 57, 58, 59, 60, 61, 64] [13, 254, 494, 654, 736, 1942, 3463] rfl rfl rfl rfl (by rw [hF]; rfl) ?_
            exact hS3463_2
          · refine ⟨_, rfl, ?_⟩
            refine TL_callV rfl (c_impl_Annotated_without_1 x1.At p1 r62 hr62) Try.call155 rfl rfl rfl rfl rfl ?_
            refine TL_nil ?_
            refine TZ_keepH [4, 5, 6, 10, 49, 50, 51, 52, 53, 54, 55, 56, 57, 59, 60, 61, 62, 64] [13, 254, 494, 654, 736, 1942, 3463] rfl rfl rfl rfl (by rw [hF]; rfl) ?_
            exact hS3463_8
          · refine ⟨_, rfl, ?_⟩
            refine TL_pure rfl rfl rfl rfl (op_load_one ag66 rfl rfl) ?_
            refine TL_nil ?_
            refine TZ_keepH [4, 5, 6, 10, 49, 50, 51, 52, 53, 54, 55, 56, 57, 59, 60, 61, 64, 65] [13, 254, 494, 654, 736, 1942, 3463] rfl rfl rfl rfl (by rw [hF]; rfl) ?_
            exact hS3463_9
        refine TZ_cut 10 [true, true, true, false, true, true, false, false, false, true, true, false, false, false, false, false, false] ⟨[(4, .ptr 13 0 0), (5, .ptr 654 0 0), (6, .fn (.func 155) [] [.cp [.sl 1 (List.map a_bool p1)]]), (10, .ptr 3463 0 0), (49, .sl 2 (List.map a_Point p0.Points)), (50, .int .i64 (p0.Points.length : Int)), (51, .int .i64 (n1 : Int)), (52, .bool (decide ((n1 : Int) < (p0.Points.length : Int)))), (53, .cp [.int .i64 x1.At, .sl 2 (List.map a_Term x1.Facts)]), (54, .agg [.int .i64 x1.At, .sl 2 (List.map a_Term x1.Facts)]), (55, .ptr 654 0 3), (56, .ow 1942), (57, .ptr 3463 0 0), (59, .fn (.func 155) [] [.cp [.sl 1 (List.map a_bool p1)]]), (60, .ptr 3463 0 0), (64, .ptr 3463 0 1), (65, .sl 2 (List.map a_Term x1.Facts))], [(13, .box [.snil, .snil, .snil, .snil]), (254, .arr ⟨false, true⟩ 2 184 (List.map a_Term j0.1)), (494, .arr ⟨false, true⟩ 2 184 (List.map a_Term j0.2)), (654, .box [.ow 254, .ow 494, .ow 736, .ow 1942]), (736, .arr ⟨false, false⟩ 2 40 (List.map a_Instr u0)), (1942, .arr ⟨false, true⟩ 2 81 (List.map a_Point s1)), (3463, .box [.int .i64 x1.At, .sl 2 (List.map a_Term x1.Facts)])]⟩ ?_ (fun hS3463_11 => ?_)
        · refine TZ_each [3, 6] (by kernel_rfl) rfl ?_
          refine ⟨?_, ?_⟩
          · refine ⟨_, rfl, ?_⟩
            refine TL_pure rfl rfl rfl rfl (op_load_one ag2 rfl rfl) ?_
            refine TL_nil ?_
            refine TZ_keepH [4, 5, 6, 10, 49, 50, 51, 52, 53, 54, 55, 56, 57, 58, 59, 60, 64, 65] [13, 254, 494, 654, 736, 1942, 3463] rfl rfl rfl rfl (by rw [hF]; rfl) ?_
            exact hS3463_3
          · refine ⟨_, rfl, ?_⟩
            refine TL_pure rfl rfl rfl rfl (op_load_one ag2 rfl rfl) ?_
            refine TL_nil ?_
            refine TZ_keepH [4, 5, 6, 10, 49, 50, 51, 52, 53, 54, 55, 56, 57, 59, 60, 61, 64, 65] [13, 254, 494, 654, 736, 1942, 3463] rfl rfl rfl rfl (by rw [hF]; rfl) ?_
            exact hS3463_9
        refine TZ_cut 11 [true, true, true, false, true, true, false, false, false, true, false, false, false, false, false, false, false] ⟨[(4, .ptr 13 0 0), (5, .ptr 654 0 0), (6, .fn (.func 155) [] [.cp [.sl 1 (List.map a_bool p1)]]), (10, .ptr 3463 0 0), (49, .sl 2 (List.map a_Point p0.Points)), (50, .int .i64 (p0.Points.length : Int)), (51, .int .i64 (n1 : Int)), (52, .bool (decide ((n1 : Int) < (p0.Points.length : Int)))), (53, .cp [.int .i64 x1.At, .sl 2 (List.map a_Term x1.Facts)]), (54, .agg [.int .i64 x1.At, .sl 2 (List.map a_Term x1.Facts)]), (55, .ptr 654 0 3), (56, .ow 1942), (57, .ptr 3463 0 0), (59, .fn (.func 155) [] [.cp [.sl 1 (List.map a_bool p1)]]), (60, .ptr 3463 0 0), (64, .ptr 3463 0 1)], [(13, .box [.snil, .snil, .snil, .snil]), (254, .arr ⟨false, true⟩ 2 184 (List.map a_Term j0.1)), (494, .arr ⟨false, true⟩ 2 184 (List.map a_Term j0.2)), (654, .box [.ow 254, .ow 494, .ow 736, .ow 1942]), (736, .arr ⟨false, false⟩ 2 40 (List.map a_Instr u0)), (1942, .arr ⟨false, true⟩ 2 81 (List.map a_Point s1)), (3463, .box [.int .i64 x1.At, .sl 2 (List.map a_Term x1.Facts)])]⟩ ?_ (fun hS3463_12 => ?_)
        · refine TZ_each [3, 6, 10] (by kernel_rfl) rfl ?_
          refine ⟨?_, ?_, ?_⟩
          · refine ⟨_, rfl, ?_⟩
            refine TL_pure rfl rfl rfl rfl (op_load_one ag2 rfl rfl) ?_
            refine TL_nil ?_
            refine TZ_keepH [4, 5, 6, 10, 49, 50, 51, 52, 53, 54, 55, 56, 57, 58, 59, 60, 64] [13, 254, 494, 654, 736, 1942, 3463] rfl rfl rfl rfl (by rw [hF]; rfl) ?_
            exact hS3463_4
          · refine ⟨_, rfl, ?_⟩
            refine TL_pure rfl rfl rfl rfl (op_load_one ag2 rfl rfl) ?_
            refine TL_nil ?_
            refine TZ_keepH [4, 5, 6, 10, 49, 50, 51, 52, 53, 54, 55, 56, 57, 59, 60, 61, 64] [13, 254, 494, 654, 736, 1942, 3463] rfl rfl rfl rfl (by rw [hF]; rfl) ?_
            exact hS3463_10
          · refine ⟨_, rfl, ?_⟩
            refine TL_pure rfl rfl rfl rfl (op_load_one ag66 rfl rfl) ?_
            refine TL_nil ?_
            refine TZ_keepH [4, 5, 6, 10, 49, 50, 51, 52, 53, 54, 55, 56, 57, 59, 60, 64, 65] [13, 254, 494, 654, 736, 1942, 3463] rfl rfl rfl rfl (by rw [hF]; rfl) ?_
            exact hS3463_11
        refine TZ_cut 7 [true, true, true, true, true, true, true, true, true, true, false, false, false, false, false, false, false] ⟨[(4, .ptr 13 0 0), (5, .ptr 654 0 0), (6, .fn (.func 155) [] [.cp [.sl 1 (List.map a_bool p1)]]), (10, .ptr 3463 0 0), (49, .sl 2 (List.map a_Point p0.Points)), (50, .int .i64 (p0.Points.length : Int)), (51, .int .i64 (n1 : Int)), (52, .bool (decide ((n1 : Int) < (p0.Points.length : Int)))), (53, .cp [.int .i64 x1.At, .sl 2 (List.map a_Term x1.Facts)]), (54, .agg [.int .i64 x1.At, .sl 2 (List.map a_Term x1.Facts)]), (55, .ptr 654 0 3), (56, .ow 1942), (57, .ptr 3463 0 0), (58, .int .i64 x1.At), (59, .fn (.func 155) [] [.cp [.sl 1 (List.map a_bool p1)]]), (60, .ptr 3463 0 0), (61, .int .i64 x1.At), (62, .int .i64 r62), (63, .int .i64 (w64 (x1.At - r62))), (64, .ptr 3463 0 1)], [(13, .box [.snil, .snil, .snil, .snil]), (254, .arr ⟨false, true⟩ 2 184 (List.map a_Term j0.1)), (494, .arr ⟨false, true⟩ 2 184 (List.map a_Term j0.2)), (654, .box [.ow 254, .ow 494, .ow 736, .ow 1942]), (736, .arr ⟨false, false⟩ 2 40 (List.map a_Instr u0)), (1942, .arr ⟨false, true⟩ 2 81 (List.map a_Point s1)), (3463, .box [.int .i64 x1.At, .sl 2 (List.map a_Term x1.Facts)])]⟩ ?_ (fun hS3463_13 => ?_)
        · refine TZ_one 10 (by kernel_rfl) rfl ?_
          refine TL_pure rfl rfl rfl rfl (op_load_one ag66 rfl rfl) ?_
          refine TL_nil ?_
          refine TZ_one 11 (by kernel_rfl) rfl ?_
          refine TL_callO [(1000, 4424)] (c_impl_ownTerms x1.Facts r66 hr66) Try.call106 rfl rfl rfl rfl rfl rfl rfl rfl rfl rfl rfl rfl rfl ?_
          refine TL_nil ?_
          refine TZ_pure 12 (by kernel_rfl) rfl rfl rfl rfl rfl (op_buildP pl81 z81 rfl rfl rfl rfl rfl) ?_
          refine TZ_one 13 (by kernel_rfl) rfl ?_
          refine TL_buildSliceD (ids := [4424]) (es := List.map a_Point [(Point.mk (w64 (x1.At - r62)) r66)]) 4584 el67 z81 rfl rfl rfl rfl rfl rfl (by rw [hF]; intro j hj; simp only [List.mem_cons, List.not_mem_nil, or_false] at hj; rcases hj with rfl <;> rfl) rfl rfl rfl rfl rfl rfl ?_
          refine TL_nil ?_
          refine TZ_one 14 (by kernel_rfl) rfl ?_
          refine TL_appendDT (f := a_Point) (a := s1) (b := [(Point.mk (w64 (x1.At - r62)) r66)]) el67 z81 rfl rfl rfl rfl rfl rfl rfl rfl (by rw [hF]; rfl) (capI_spec hq69) rfl rfl rfl rfl rfl ?_
          refine TL_nil ?_
          refine TZ_pure 15 (by kernel_rfl) rfl rfl rfl rfl rfl (op_fieldAddr fa69_3 rfl rfl) ?_
          refine TZ_one 16 (by kernel_rfl) rfl ?_
          refine TL_store_box sz67 rfl rfl rfl rfl rfl rfl rfl rfl rfl ?_
          refine TL_nil ?_
          refine TZ_done (by kernel_rfl) ?_
          refine T_region ?_
          refine TL_pure rfl rfl rfl rfl (op_addN rfl rfl (Nat.lt_of_lt_of_le hlt1 hlen50)) ?_
          refine TL_pure rfl rfl rfl rfl (op_move rfl) ?_
          refine TL_nil ?_
          refine TR_keepH [4, 5, 6, 49, 50, 51] [13, 254, 494, 654, 736, 1942] rfl rfl rfl rfl (by rw [hF]; rfl) ?_
          obtain rfl := someI hm
          have hn := CtlOK_next hc1
          exact hn _ rfl
        refine TZ_cut 6 [true, true, true, true, true, true, true, true, true, true, true, false, false, false, false, false, false] ⟨[(4, .ptr 13 0 0), (5, .ptr 654 0 0), (6, .fn (.func 155) [] [.cp [.sl 1 (List.map a_bool p1)]]), (10, .ptr 3463 0 0), (49, .sl 2 (List.map a_Point p0.Points)), (50, .int .i64 (p0.Points.length : Int)), (51, .int .i64 (n1 : Int)), (52, .bool (decide ((n1 : Int) < (p0.Points.length : Int)))), (53, .cp [.int .i64 x1.At, .sl 2 (List.map a_Term x1.Facts)]), (54, .agg [.int .i64 x1.At, .sl 2 (List.map a_Term x1.Facts)]), (55, .ptr 654 0 3), (56, .ow 1942), (57, .ptr 3463 0 0), (58, .int .i64 x1.At), (59, .fn (.func 155) [] [.cp [.sl 1 (List.map a_bool p1)]]), (60, .ptr 3463 0 0), (61, .int .i64 x1.At), (62, .int .i64 r62), (63, .int .i64 (w64 (x1.At - r62))), (64, .ptr 3463 0 1), (65, .sl 2 (List.map a_Term x1.Facts))], [(13, .box [.snil, .snil, .snil, .snil]), (254, .arr ⟨false, true⟩ 2 184 (List.map a_Term j0.1)), (494, .arr ⟨false, true⟩ 2 184 (List.map a_Term j0.2)), (654, .box [.ow 254, .ow 494, .ow 736, .ow 1942]), (736, .arr ⟨false, false⟩ 2 40 (List.map a_Instr u0)), (1942, .arr ⟨false, true⟩ 2 81 (List.map a_Point s1)), (3463, .box [.int .i64 x1.At, .sl 2 (List.map a_Term x1.Facts)])]⟩ ?_ (fun hS3463_14 => ?_)
        · refine TZ_one 11 (by kernel_rfl) rfl ?_
          refine TL_callO [(1000, 4424)] (c_impl_ownTerms x1.Facts r66 hr66) Try.call106 rfl rfl rfl rfl rfl rfl rfl rfl rfl rfl rfl rfl rfl ?_
          refine TL_nil ?_
          refine TZ_pure 12 (by kernel_rfl) rfl rfl rfl rfl rfl (op_buildP pl81 z81 rfl rfl rfl rfl rfl) ?_
          refine TZ_one 13 (by kernel_rfl) rfl ?_
          refine TL_buildSliceD (ids := [4424]) (es := List.map a_Point [(Point.mk (w64 (x1.At - r62)) r66)]) 4584 el67 z81 rfl rfl rfl rfl rfl rfl (by rw [hF]; intro j hj; simp only [List.mem_cons, List.not_mem_nil, or_false] at hj; rcases hj with rfl <;> rfl) rfl rfl rfl rfl rfl rfl ?_
          refine TL_nil ?_
          refine TZ_one 14 (by kernel_rfl) rfl ?_
          refine TL_appendDT (f := a_Point) (a := s1) (b := [(Point.mk (w64 (x1.At - r62)) r66)]) el67 z81 rfl rfl rfl rfl rfl rfl rfl rfl (by rw [hF]; rfl) (capI_spec hq69) rfl rfl rfl rfl rfl ?_
          refine TL_nil ?_
          refine TZ_pure 15 (by kernel_rfl) rfl rfl rfl rfl rfl (op_fieldAddr fa69_3 rfl rfl) ?_
          refine TZ_one 16 (by kernel_rfl) rfl ?_
          refine TL_store_box sz67 rfl rfl rfl rfl rfl rfl rfl rfl rfl ?_
          refine TL_nil ?_
          refine TZ_done (by kernel_rfl) ?_
          refine T_region ?_
          refine TL_pure rfl rfl rfl rfl (op_addN rfl rfl (Nat.lt_of_lt_of_le hlt1 hlen50)) ?_
          refine TL_pure rfl rfl rfl rfl (op_move rfl) ?_
          refine TL_nil ?_
          refine TR_keepH [4, 5, 6, 49, 50, 51] [13, 254, 494, 654, 736, 1942] rfl rfl rfl rfl (by rw [hF]; rfl) ?_
          obtain rfl := someI hm
          have hn := CtlOK_next hc1
          exact hn _ rfl
        refine TZ_cut 4 [true, true, true, true, true, true, true, true, true, true, true, true, true, false, false, false, false] ⟨[(4, .ptr 13 0 0), (5, .ptr 654 0 0), (6, .fn (.func 155) [] [.cp [.sl 1 (List.map a_bool p1)]]), (10, .ptr 3463 0 0), (49, .sl 2 (List.map a_Point p0.Points)), (50, .int .i64 (p0.Points.length : Int)), (51, .int .i64 (n1 : Int)), (52, .bool (decide ((n1 : Int) < (p0.Points.length : Int)))), (53, .cp [.int .i64 x1.At, .sl 2 (List.map a_Term x1.Facts)]), (54, .agg [.int .i64 x1.At, .sl 2 (List.map a_Term x1.Facts)]), (55, .ptr 654 0 3), (56, .ow 1942), (57, .ptr 3463 0 0), (58, .int .i64 x1.At), (59, .fn (.func 155) [] [.cp [.sl 1 (List.map a_bool p1)]]), (60, .ptr 3463 0 0), (61, .int .i64 x1.At), (62, .int .i64 r62), (63, .int .i64 (w64 (x1.At - r62))), (64, .ptr 3463 0 1), (65, .sl 2 (List.map a_Term x1.Facts)), (66, .ow 4424), (67, .agg [.int .i64 (w64 (x1.At - r62)), .ow 4424])], [(13, .box [.snil, .snil, .snil, .snil]), (254, .arr ⟨false, true⟩ 2 184 (List.map a_Term j0.1)), (494, .arr ⟨false, true⟩ 2 184 (List.map a_Term j0.2)), (654, .box [.ow 254, .ow 494, .ow 736, .ow 1942]), (736, .arr ⟨false, false⟩ 2 40 (List.map a_Instr u0)), (1942, .arr ⟨false, true⟩ 2 81 (List.map a_Point s1)), (3463, .box [.int .i64 x1.At, .sl 2 (List.map a_Term x1.Facts)]), (4424, .arr ⟨false, true⟩ 2 184 (List.map a_Term r66))]⟩ ?_ (fun hS3463_15 => ?_)
        · refine TZ_one 13 (by kernel_rfl) rfl ?_
          refine TL_buildSliceD (ids := [4424]) (es := List.map a_Point [(Point.mk (w64 (x1.At - r62)) r66)]) 4584 el67 z81 rfl rfl rfl rfl rfl rfl (by rw [hF]; intro j hj; simp only [List.mem_cons, List.not_mem_nil, or_false] at hj; rcases hj with rfl <;> rfl) rfl rfl rfl rfl rfl rfl ?_
          refine TL_nil ?_
          refine TZ_one 14 (by kernel_rfl) rfl ?_
          refine TL_appendDT (f := a_Point) (a := s1) (b := [(Point.mk (w64 (x1.At - r62)) r66)]) el67 z81 rfl rfl rfl rfl rfl rfl rfl rfl (by rw [hF]; rfl) (capI_spec hq69) rfl rfl rfl rfl rfl ?_
          refine TL_nil ?_
          refine TZ_pure 15 (by kernel_rfl) rfl rfl rfl rfl rfl (op_fieldAddr fa69_3 rfl rfl) ?_
          refine TZ_one 16 (by kernel_rfl) rfl ?_
          refine TL_store_box sz67 rfl rfl rfl rfl rfl rfl rfl rfl rfl ?_
          refine TL_nil ?_
          refine TZ_done (by kernel_rfl) ?_
          refine T_region ?_
          refine TL_pure rfl rfl rfl rfl (op_addN rfl rfl (Nat.lt_of_lt_of_le hlt1 hlen50)) ?_
          refine TL_pure rfl rfl rfl rfl (op_move rfl) ?_
          refine TL_nil ?_
          refine TR_keepH [4, 5, 6, 49, 50, 51] [13, 254, 494, 654, 736, 1942] rfl rfl rfl rfl (by rw [hF]; rfl) ?_
          obtain rfl := someI hm
          have hn := CtlOK_next hc1
          exact hn _ rfl
        refine TZ_cut 4 [true, false, true, true, true, true, true, true, true, true, true, true, true, true, false, false, false] ⟨[(4, .ptr 13 0 0), (5, .ptr 654 0 0), (6, .fn (.func 155) [] [.cp [.sl 1 (List.map a_bool p1)]]), (10, .ptr 3463 0 0), (49, .sl 2 (List.map a_Point p0.Points)), (50, .int .i64 (p0.Points.length : Int)), (51, .int .i64 (n1 : Int)), (52, .bool (decide ((n1 : Int) < (p0.Points.length : Int)))), (53, .cp [.int .i64 x1.At, .sl 2 (List.map a_Term x1.Facts)]), (54, .agg [.int .i64 x1.At, .sl 2 (List.map a_Term x1.Facts)]), (55, .ptr 654 0 3), (57, .ptr 3463 0 0), (58, .int .i64 x1.At), (59, .fn (.func 155) [] [.cp [.sl 1 (List.map a_bool p1)]]), (60, .ptr 3463 0 0), (61, .int .i64 x1.At), (62, .int .i64 r62), (63, .int .i64 (w64 (x1.At - r62))), (64, .ptr 3463 0 1), (65, .sl 2 (List.map a_Term x1.Facts)), (66, .junk), (67, .junk), (68, .ow 4584)], [(13, .box [.snil, .snil, .snil, .snil]), (254, .arr ⟨false, true⟩ 2 184 (List.map a_Term j0.1)), (494, .arr ⟨false, true⟩ 2 184 (List.map a_Term j0.2)), (654, .box [.ow 254, .ow 494, .ow 736, .ow 1942]), (736, .arr ⟨false, false⟩ 2 40 (List.map a_Instr u0)), (1942, .arr ⟨false, true⟩ 2 81 (List.map a_Point s1)), (3463, .box [.int .i64 x1.At, .sl 2 (List.map a_Term x1.Facts)]), (4584, .arr ⟨false, true⟩ 2 81 (List.map a_Point [(Point.mk (w64 (x1.At - r62)) r66)]))]⟩ ?_ (fun hS3463_16 => ?_)
        · refine TZ_pure 1 (by kernel_rfl) rfl rfl rfl rfl rfl (op_load_one ag67 rfl rfl) ?_
          refine TZ_one 14 (by kernel_rfl) rfl ?_
          refine TL_appendDT (f := a_Point) (a := s1) (b := [(Point.mk (w64 (x1.At - r62)) r66)]) el67 z81 rfl rfl rfl rfl rfl rfl rfl rfl (by rw [hF]; rfl) (capI_spec hq69) rfl rfl rfl rfl rfl ?_
          refine TL_nil ?_
          refine TZ_pure 15 (by kernel_rfl) rfl rfl rfl rfl rfl (op_fieldAddr fa69_3 rfl rfl) ?_
          refine TZ_one 16 (by kernel_rfl) rfl ?_
          refine TL_store_box sz67 rfl rfl rfl rfl rfl rfl rfl rfl rfl ?_
          refine TL_nil ?_
          refine TZ_done (by kernel_rfl) ?_
          refine T_region ?_
          refine TL_pure rfl rfl rfl rfl (op_addN rfl rfl (Nat.lt_of_lt_of_le hlt1 hlen50)) ?_
          refine TL_pure rfl rfl rfl rfl (op_move rfl) ?_
          refine TL_nil ?_
          refine TR_keepH [4, 5, 6, 49, 50, 51] [13, 254, 494, 654, 736, 1942] rfl rfl rfl rfl (by rw [hF]; rfl) ?_
          obtain rfl := someI hm
          have hn := CtlOK_next hc1
          exact hn _ rfl
        refine TZ_cut 6 [true, false, true, true, true, true, true, true, true, true, true, true, false, false, false, false, false] ⟨[(4, .ptr 13 0 0), (5, .ptr 654 0 0), (6, .fn (.func 155) [] [.cp [.sl 1 (List.map a_bool p1)]]), (10, .ptr 3463 0 0), (49, .sl 2 (List.map a_Point p0.Points)), (50, .int .i64 (p0.Points.length : Int)), (51, .int .i64 (n1 : Int)), (52, .bool (decide ((n1 : Int) < (p0.Points.length : Int)))), (53, .cp [.int .i64 x1.At, .sl 2 (List.map a_Term x1.Facts)]), (54, .agg [.int .i64 x1.At, .sl 2 (List.map a_Term x1.Facts)]), (55, .ptr 654 0 3), (57, .ptr 3463 0 0), (58, .int .i64 x1.At), (59, .fn (.func 155) [] [.cp [.sl 1 (List.map a_bool p1)]]), (60, .ptr 3463 0 0), (61, .int .i64 x1.At), (62, .int .i64 r62), (63, .int .i64 (w64 (x1.At - r62))), (64, .ptr 3463 0 1), (65, .sl 2 (List.map a_Term x1.Facts)), (66, .ow 4424)], [(13, .box [.snil, .snil, .snil, .snil]), (254, .arr ⟨false, true⟩ 2 184 (List.map a_Term j0.1)), (494, .arr ⟨false, true⟩ 2 184 (List.map a_Term j0.2)), (654, .box [.ow 254, .ow 494, .ow 736, .ow 1942]), (736, .arr ⟨false, false⟩ 2 40 (List.map a_Instr u0)), (1942, .arr ⟨false, true⟩ 2 81 (List.map a_Point s1)), (3463, .box [.int .i64 x1.At, .sl 2 (List.map a_Term x1.Facts)]), (4424, .arr ⟨false, true⟩ 2 184 (List.map a_Term r66))]⟩ ?_ (fun hS3463_17 => ?_)
        · refine TZ_pure 12 (by kernel_rfl) rfl rfl rfl rfl rfl (op_buildP pl81 z81 rfl rfl rfl rfl rfl) ?_
          refine TZ_each [1, 13] (by kernel_rfl) rfl ?_
          refine ⟨?_, ?_⟩
          · refine ⟨_, rfl, ?_⟩
            refine TL_pure rfl rfl rfl rfl (op_load_one ag67 rfl rfl) ?_
            refine TL_nil ?_
            refine TZ_keepH [4, 5, 6, 10, 49, 50, 51, 52, 53, 54, 55, 56, 57, 58, 59, 60, 61, 62, 63, 64, 65, 66, 67] [13, 254, 494, 654, 736, 1942, 3463, 4424] rfl rfl rfl rfl (by rw [hF]; rfl) ?_
            exact hS3463_15
          · refine ⟨_, rfl, ?_⟩
            refine TL_buildSliceD (ids := [4424]) (es := List.map a_Point [(Point.mk (w64 (x1.At - r62)) r66)]) 4584 el67 z81 rfl rfl rfl rfl rfl rfl (by rw [hF]; intro j hj; simp only [List.mem_cons, List.not_mem_nil, or_false] at hj; rcases hj with rfl <;> rfl) rfl rfl rfl rfl rfl rfl ?_
            refine TL_nil ?_
            refine TZ_keepH [4, 5, 6, 10, 49, 50, 51, 52, 53, 54, 55, 57, 58, 59, 60, 61, 62, 63, 64, 65, 66, 67, 68] [13, 254, 494, 654, 736, 1942, 3463, 4584] rfl rfl rfl rfl (by rw [hF]; rfl) ?_
            exact hS3463_16
        refine TZ_cut 7 [true, false, true, true, true, true, true, true, true, true, true, false, false, false, false, false, false] ⟨[(4, .ptr 13 0 0), (5, .ptr 654 0 0), (6, .fn (.func 155) [] [.cp [.sl 1 (List.map a_bool p1)]]), (10, .ptr 3463 0 0), (49, .sl 2 (List.map a_Point p0.Points)), (50, .int .i64 (p0.Points.length : Int)), (51, .int .i64 (n1 : Int)), (52, .bool (decide ((n1 : Int) < (p0.Points.length : Int)))), (53, .cp [.int .i64 x1.At, .sl 2 (List.map a_Term x1.Facts)]), (54, .agg [.int .i64 x1.At, .sl 2 (List.map a_Term x1.Facts)]), (55, .ptr 654 0 3), (57, .ptr 3463 0 0), (58, .int .i64 x1.At), (59, .fn (.func 155) [] [.cp [.sl 1 (List.map a_bool p1)]]), (60, .ptr 3463 0 0), (61, .int .i64 x1.At), (62, .int .i64 r62), (63, .int .i64 (w64 (x1.At - r62))), (64, .ptr 3463 0 1), (65, .sl 2 (List.map a_Term x1.Facts))], [(13, .box [.snil, .snil, .snil, .snil]), (254, .arr ⟨false, true⟩ 2 184 (List.map a_Term j0.1)), (494, .arr ⟨false, true⟩ 2 184 (List.map a_Term j0.2)), (654, .box [.ow 254, .ow 494, .ow 736, .ow 1942]), (736, .arr ⟨false, false⟩ 2 40 (List.map a_Instr u0)), (1942, .arr ⟨false, true⟩ 2 81 (List.map a_Point s1)), (3463, .box [.int .i64 x1.At, .sl 2 (List.map a_Term x1.Facts)])]⟩ ?_ (fun hS3463_18 => ?_)
        · refine TZ_each [1, 11] (by kernel_rfl) rfl ?_
          refine ⟨?_, ?_⟩
          · refine ⟨_, rfl, ?_⟩
            refine TL_pure rfl rfl rfl rfl (op_load_one ag67 rfl rfl) ?_
            refine TL_nil ?_
            refine TZ_keepH [4, 5, 6, 10, 49, 50, 51, 52, 53, 54, 55, 56, 57, 58, 59, 60, 61, 62, 63, 64, 65] [13, 254, 494, 654, 736, 1942, 3463] rfl rfl rfl rfl (by rw [hF]; rfl) ?_
            exact hS3463_14
          · refine ⟨_, rfl, ?_⟩
            refine TL_callO [(1000, 4424)] (c_impl_ownTerms x1.Facts r66 hr66) Try.call106 rfl rfl rfl rfl rfl rfl rfl rfl rfl rfl rfl rfl rfl ?_
            refine TL_nil ?_
            refine TZ_keepH [4, 5, 6, 10, 49, 50, 51, 52, 53, 54, 55, 57, 58, 59, 60, 61, 62, 63, 64, 65, 66] [13, 254, 494, 654, 736, 1942, 3463, 4424] rfl rfl rfl rfl (by rw [hF]; rfl) ?_
            exact hS3463_17
        refine TZ_cut 9 [true, false, true, true, true, true, true, true, false, true, false, false, false, false, false, false, false] ⟨[(4, .ptr 13 0 0), (5, .ptr 654 0 0), (6, .fn (.func 155) [] [.cp [.sl 1 (List.map a_bool p1)]]), (10, .ptr 3463 0 0), (49, .sl 2 (List.map a_Point p0.Points)), (50, .int .i64 (p0.Points.length : Int)), (51, .int .i64 (n1 : Int)), (52, .bool (decide ((n1 : Int) < (p0.Points.length : Int)))), (53, .cp [.int .i64 x1.At, .sl 2 (List.map a_Term x1.Facts)]), (54, .agg [.int .i64 x1.At, .sl 2 (List.map a_Term x1.Facts)]), (55, .ptr 654 0 3), (57, .ptr 3463 0 0), (58, .int .i64 x1.At), (59, .fn (.func 155) [] [.cp [.sl 1 (List.map a_bool p1)]]), (60, .ptr 3463 0 0), (61, .int .i64 x1.At), (62, .int .i64 r62), (64, .ptr 3463 0 1)], [(13, .box [.snil, .snil, .snil, .snil]), (254, .arr ⟨false, true⟩ 2 184 (List.map a_Term j0.1)), (494, .arr ⟨false, true⟩ 2 184 (List.map a_Term j0.2)), (654, .box [.ow 254, .ow 494, .ow 736, .ow 1942]), (736, .arr ⟨false, false⟩ 2 40 (List.map a_Instr u0)), (1942, .arr ⟨false, true⟩ 2 81 (List.map a_Point s1)), (3463, .box [.int .i64 x1.At, .sl 2 (List.map a_Term x1.Facts)])]⟩ ?_ (fun hS3463_19 => ?_)
        · refine TZ_pure 8 (by kernel_rfl) rfl rfl rfl rfl rfl (op_subW rfl rfl) ?_
          refine TZ_each [1, 10] (by kernel_rfl) rfl ?_
          refine ⟨?_, ?_⟩
          · refine ⟨_, rfl, ?_⟩
            refine TL_pure rfl rfl rfl rfl (op_load_one ag67 rfl rfl) ?_
            refine TL_nil ?_
            refine TZ_keepH [4, 5, 6, 10, 49, 50, 51, 52, 53, 54, 55, 56, 57, 58, 59, 60, 61, 62, 63, 64] [13, 254, 494, 654, 736, 1942, 3463] rfl rfl rfl rfl (by rw [hF]; rfl) ?_
            exact hS3463_13
          · refine ⟨_, rfl, ?_⟩
            refine TL_pure rfl rfl rfl rfl (op_load_one ag66 rfl rfl) ?_
            refine TL_nil ?_
            refine TZ_keepH [4, 5, 6, 10, 49, 50, 51, 52, 53, 54, 55, 57, 58, 59, 60, 61, 62, 63, 64, 65] [13, 254, 494, 654, 736, 1942, 3463] rfl rfl rfl rfl (by rw [hF]; rfl) ?_
            exact hS3463_18
        refine TZ_cut 8 [true, false, true, true, true, true, true, true, false, true, true, false, false, false, false, false, false] ⟨[(4, .ptr 13 0 0), (5, .ptr 654 0 0), (6, .fn (.func 155) [] [.cp [.sl 1 (List.map a_bool p1)]]), (10, .ptr 3463 0 0), (49, .sl 2 (List.map a_Point p0.Points)), (50, .int .i64 (p0.Points.length : Int)), (51, .int .i64 (n1 : Int)), (52, .bool (decide ((n1 : Int) < (p0.Points.length : Int)))), (53, .cp [.int .i64 x1.At, .sl 2 (List.map a_Term x1.Facts)]), (54, .agg [.int .i64 x1.At, .sl 2 (List.map a_Term x1.Facts)]), (55, .ptr 654 0 3), (57, .ptr 3463 0 0), (58, .int .i64 x1.At), (59, .fn (.func 155) [] [.cp [.sl 1 (List.map a_bool p1)]]), (60, .ptr 3463 0 0), (61, .int .i64 x1.At), (62, .int .i64 r62), (64, .ptr 3463 0 1), (65, .sl 2 (List.map a_Term x1.Facts))], [(13, .box [.snil, .snil, .snil, .snil]), (254, .arr ⟨false, true⟩ 2 184 (List.map a_Term j0.1)), (494, .arr ⟨false, true⟩ 2 184 (List.map a_Term j0.2)), (654, .box [.ow 254, .ow 494, .ow 736, .ow 1942]), (736, .arr ⟨false, false⟩ 2 40 (List.map a_Instr u0)), (1942, .arr ⟨false, true⟩ 2 81 (List.map a_Point s1)), (3463, .box [.int .i64 x1.At, .sl 2 (List.map a_Term x1.Facts)])]⟩ ?_ (fun hS3463_20 => ?_)
        · refine TZ_pure 8 (by kernel_rfl) rfl rfl rfl rfl rfl (op_subW rfl rfl) ?_
          refine TZ_each [1, 11] (by kernel_rfl) rfl ?_
          refine ⟨?_, ?_⟩
          · refine ⟨_, rfl, ?_⟩
            refine TL_pure rfl rfl rfl rfl (op_load_one ag67 rfl rfl) ?_
            refine TL_nil ?_
            refine TZ_keepH [4, 5, 6, 10, 49, 50, 51, 52, 53, 54, 55, 56, 57, 58, 59, 60, 61, 62, 63, 64, 65] [13, 254, 494, 654, 736, 1942, 3463] rfl rfl rfl rfl (by rw [hF]; rfl) ?_
            exact hS3463_14
          · refine ⟨_, rfl, ?_⟩
            refine TL_callO [(1000, 4424)] (c_impl_ownTerms x1.Facts r66 hr66) Try.call106 rfl rfl rfl rfl rfl rfl rfl rfl rfl rfl rfl rfl rfl ?_
            refine TL_nil ?_
            refine TZ_keepH [4, 5, 6, 10, 49, 50, 51, 52, 53, 54, 55, 57, 58, 59, 60, 61, 62, 63, 64, 65, 66] [13, 254, 494, 654, 736, 1942, 3463, 4424] rfl rfl rfl rfl (by rw [hF]; rfl) ?_
            exact hS3463_17
        refine TZ_cut 9 [true, false, true, true, true, true, true, false, false, true, true, false, false, false, false, false, false] ⟨[(4, .ptr 13 0 0), (5, .ptr 654 0 0), (6, .fn (.func 155) [] [.cp [.sl 1 (List.map a_bool p1)]]), (10, .ptr 3463 0 0), (49, .sl 2 (List.map a_Point p0.Points)), (50, .int .i64 (p0.Points.length : Int)), (51, .int .i64 (n1 : Int)), (52, .bool (decide ((n1 : Int) < (p0.Points.length : Int)))), (53, .cp [.int .i64 x1.At, .sl 2 (List.map a_Term x1.Facts)]), (54, .agg [.int .i64 x1.At, .sl 2 (List.map a_Term x1.Facts)]), (55, .ptr 654 0 3), (57, .ptr 3463 0 0), (58, .int .i64 x1.At), (59, .fn (.func 155) [] [.cp [.sl 1 (List.map a_bool p1)]]), (60, .ptr 3463 0 0), (61, .int .i64 x1.At), (64, .ptr 3463 0 1), (65, .sl 2 (List.map a_Term x1.Facts))], [(13, .box [.snil, .snil, .snil, .snil]), (254, .arr ⟨false, true⟩ 2 184 (List.map a_Term j0.1)), (494, .arr ⟨false, true⟩ 2 184 (List.map a_Term j0.2)), (654, .box [.ow 254, .ow 494, .ow 736, .ow 1942]), (736, .arr ⟨false, false⟩ 2 40 (List.map a_Instr u0)), (1942, .arr ⟨false, true⟩ 2 81 (List.map a_Point s1)), (3463, .box [.int .i64 x1.At, .sl 2 (List.map a_Term x1.Facts)])]⟩ ?_ (fun hS3463_21 => ?_)
        · refine TZ_each [1, 7] (by kernel_rfl) rfl ?_
          refine ⟨?_, ?_⟩
          · refine ⟨_, rfl, ?_⟩
            refine TL_pure rfl rfl rfl rfl (op_load_one ag67 rfl rfl) ?_
            refine TL_nil ?_
            refine TZ_keepH [4, 5, 6, 10, 49, 50, 51, 52, 53, 54, 55, 56, 57, 58, 59, 60, 61, 64, 65] [13, 254, 494, 654, 736, 1942, 3463] rfl rfl rfl rfl (by rw [hF]; rfl) ?_
            exact hS3463_1
          · refine ⟨_, rfl, ?_⟩
            refine TL_callV rfl (c_impl_Annotated_without_1 x1.At p1 r62 hr62) Try.call155 rfl rfl rfl rfl rfl ?_
            refine TL_nil ?_
            refine TZ_keepH [4, 5, 6, 10, 49, 50, 51, 52, 53, 54, 55, 57, 58, 59, 60, 61, 62, 64, 65] [13, 254, 494, 654, 736, 1942, 3463] rfl rfl rfl rfl (by rw [hF]; rfl) ?_
            exact hS3463_20
        refine TZ_cut 10 [true, false, true, true, true, true, true, false, false, true, false, false, false, false, false, false, false] ⟨[(4, .ptr 13 0 0), (5, .ptr 654 0 0), (6, .fn (.func 155) [] [.cp [.sl 1 (List.map a_bool p1)]]), (10, .ptr 3463 0 0), (49, .sl 2 (List.map a_Point p0.Points)), (50, .int .i64 (p0.Points.length : Int)), (51, .int .i64 (n1 : Int)), (52, .bool (decide ((n1 : Int) < (p0.Points.length : Int)))), (53, .cp [.int .i64 x1.At, .sl 2 (List.map a_Term x1.Facts)]), (54, .agg [.int .i64 x1.At, .sl 2 (List.map a_Term x1.Facts)]), (55, .ptr 654 0 3), (57, .ptr 3463 0 0), (58, .int .i64 x1.At), (59, .fn (.func 155) [] [.cp [.sl 1 (List.map a_bool p1)]]), (60, .ptr 3463 0 0), (61, .int .i64 x1.At), (64, .ptr 3463 0 1)], [(13, .box [.snil, .snil, .snil, .snil]), (254, .arr ⟨false, true⟩ 2 184 (List.map a_Term j0.1)), (494, .arr ⟨false, true⟩ 2 184 (List.map a_Term j0.2)), (654, .box [.ow 254, .ow 494, .ow 736, .ow 1942]), (736, .arr ⟨false, false⟩ 2 40 (List.map a_Instr u0)), (1942, .arr ⟨false, true⟩ 2 81 (List.map a_Point s1)), (3463, .box [.int .i64 x1.At, .sl 2 (List.map a_Term x1.Facts)])]⟩ ?_ (fun hS3463_22 => ?_)
        · refine TZ_each [1, 7, 10] (by kernel_rfl) rfl ?_
          refine ⟨?_, ?_, ?_⟩
          · refine ⟨_, rfl, ?_⟩
            refine TL_pure rfl rfl rfl rfl (op_load_one ag67 rfl rfl) ?_
            refine TL_nil ?_
            refine TZ_keepH [4, 5, 6, 10, 49, 50, 51, 52, 53, 54, 55, 56, 57, 58, 59, 60, 61, 64] [13, 254, 494, 654, 736, 1942, 3463] rfl rfl rfl rfl (by rw [hF]; rfl) ?_
            exact hS3463_2
          · refine ⟨_, rfl, ?_⟩
            refine TL_callV rfl (c_impl_Annotated_without_1 x1.At p1 r62 hr62) Try.call155 rfl rfl rfl rfl rfl ?_
            refine TL_nil ?_
            refine TZ_keepH [4, 5, 6, 10, 49, 50, 51, 52, 53, 54, 55, 57, 58, 59, 60, 61, 62, 64] [13, 254, 494, 654, 736, 1942, 3463] rfl rfl rfl rfl (by rw [hF]; rfl) ?_
            exact hS3463_19
          · refine ⟨_, rfl, ?_⟩
            refine TL_pure rfl rfl rfl rfl (op_load_one ag66 rfl rfl) ?_
            refine TL_nil ?_
            refine TZ_keepH [4, 5, 6, 10, 49, 50, 51, 52, 53, 54, 55, 57, 58, 59, 60, 61, 64, 65] [13, 254, 494, 654, 736, 1942, 3463] rfl rfl rfl rfl (by rw [hF]; rfl) ?_
            exact hS3463_21
        refine TZ_cut 10 [true, false, true, true, true, true, false, false, false, true, true, false, false, false, false, false, false] ⟨[(4, .ptr 13 0 0), (5, .ptr 654 0 0), (6, .fn (.func 155) [] [.cp [.sl 1 (List.map a_bool p1)]]), (10, .ptr 3463 0 0), (49, .sl 2 (List.map a_Point p0.Points)), (50, .int .i64 (p0.Points.length : Int)), (51, .int .i64 (n1 : Int)), (52, .bool (decide ((n1 : Int) < (p0.Points.length : Int)))), (53, .cp [.int .i64 x1.At, .sl 2 (List.map a_Term x1.Facts)]), (54, .agg [.int .i64 x1.At, .sl 2 (List.map a_Term x1.Facts)]), (55, .ptr 654 0 3), (57, .ptr 3463 0 0), (58, .int .i64 x1.At), (59, .fn (.func 155) [] [.cp [.sl 1 (List.map a_bool p1)]]), (60, .ptr 3463 0 0), (64, .ptr 3463 0 1), (65, .sl 2 (List.map a_Term x1.Facts))], [(13, .box [.snil, .snil, .snil, .snil]), (254, .arr ⟨false, true⟩ 2 184 (List.map a_Term j0.1)), (494, .arr ⟨false, true⟩ 2 184 (List.map a_Term j0.2)), (654, .box [.ow 254, .ow 494, .ow 736, .ow 1942]), (736, .arr ⟨false, false⟩ 2 40 (List.map a_Instr u0)), (1942, .arr ⟨false, true⟩ 2 81 (List.map a_Point s1)), (3463, .box [.int .i64 x1.At, .sl 2 (List.map a_Term x1.Facts)])]⟩ ?_ (fun hS3463_23 => ?_)
        · refine TZ_each [1, 6] (by kernel_rfl) rfl ?_
          refine ⟨?_, ?_⟩
          · refine ⟨_, rfl, ?_⟩
            refine TL_pure rfl rfl rfl rfl (op_load_one ag67 rfl rfl) ?_
            refine TL_nil ?_
            refine TZ_keepH [4, 5, 6, 10, 49, 50, 51, 52, 53, 54, 55, 56, 57, 58, 59, 60, 64, 65] [13, 254, 494, 654, 736, 1942, 3463] rfl rfl rfl rfl (by rw [hF]; rfl) ?_
            exact hS3463_3
          · refine ⟨_, rfl, ?_⟩
            refine TL_pure rfl rfl rfl rfl (op_load_one ag2 rfl rfl) ?_
            refine TL_nil ?_
            refine TZ_keepH [4, 5, 6, 10, 49, 50, 51, 52, 53, 54, 55, 57, 58, 59, 60, 61, 64, 65] [13, 254, 494, 654, 736, 1942, 3463] rfl rfl rfl rfl (by rw [hF]; rfl) ?_
            exact hS3463_21
        refine TZ_cut 11 [true, false, true, true, true, true, false, false, false, true, false, false, false, false, false, false, false] ⟨[(4, .ptr 13 0 0), (5, .ptr 654 0 0), (6, .fn (.func 155) [] [.cp [.sl 1 (List.map a_bool p1)]]), (10, .ptr 3463 0 0), (49, .sl 2 (List.map a_Point p0.Points)), (50, .int .i64 (p0.Points.length : Int)), (51, .int .i64 (n1 : Int)), (52, .bool (decide ((n1 : Int) < (p0.Points.length : Int)))), (53, .cp [.int .i64 x1.At, .sl 2 (List.map a_Term x1.Facts)]), (54, .agg [.int .i64 x1.At, .sl 2 (List.map a_Term x1.Facts)]), (55, .ptr 654 0 3), (57, .ptr 3463 0 0), (58, .int .i64 x1.At), (59, .fn (.func 155) [] [.cp [.sl 1 (List.map a_bool p1)]]), (60, .ptr 3463 0 0), (64, .ptr 3463 0 1)], [(13, .box [.snil, .snil, .snil, .snil]), (254, .arr ⟨false, true⟩ 2 184 (List.map a_Term j0.1)), (494, .arr ⟨false, true⟩ 2 184 (List.map a_Term j0.2)), (654, .box [.ow 254, .ow 494, .ow 736, .ow 1942]), (736, .arr ⟨false, false⟩ 2 40 (List.map a_Instr u0)), (1942, .arr ⟨false, true⟩ 2 81 (List.map a_Point s1)), (3463, .box [.int .i64 x1.At, .sl 2 (List.map a_Term x1.Facts)])]⟩ ?_ (fun hS3463_24 => ?_)
        · refine TZ_each [1, 6, 10] (by kernel_rfl) rfl ?_
          refine ⟨?_, ?_, ?_⟩
          · refine ⟨_, rfl, ?_⟩
            refine TL_pure rfl rfl rfl rfl (op_load_one ag67 rfl rfl) ?_
            refine TL_nil ?_
            refine TZ_keepH [4, 5, 6, 10, 49, 50, 51, 52, 53, 54, 55, 56, 57, 58, 59, 60, 64] [13, 254, 494, 654, 736, 1942, 3463] rfl rfl rfl rfl (by rw [hF]; rfl) ?_
            exact hS3463_4
          · refine ⟨_, rfl, ?_⟩
            refine TL_pure rfl rfl rfl rfl (op_load_one ag2 rfl rfl) ?_
            refine TL_nil ?_
            refine TZ_keepH [4, 5, 6, 10, 49, 50, 51, 52, 53, 54, 55, 57, 58, 59, 60, 61, 64] [13, 254, 494, 654, 736, 1942, 3463] rfl rfl rfl rfl (by rw [hF]; rfl) ?_
            exact hS3463_22
          · refine ⟨_, rfl, ?_⟩
            refine TL_pure rfl rfl rfl rfl (op_load_one ag66 rfl rfl) ?_
            refine TL_nil ?_
            refine TZ_keepH [4, 5, 6, 10, 49, 50, 51, 52, 53, 54, 55, 57, 58, 59, 60, 64, 65] [13, 254, 494, 654, 736, 1942, 3463] rfl rfl rfl rfl (by rw [hF]; rfl) ?_
            exact hS3463_23
        refine TZ_cut 7 [true, false, true, true, true, true, true, true, false, true, true, true, false, false, false, false, false] ⟨[(4, .ptr 13 0 0), (5, .ptr 654 0 0), (6, .fn (.func 155) [] [.cp [.sl 1 (List.map a_bool p1)]]), (10, .ptr 3463 0 0), (49, .sl 2 (List.map a_Point p0.Points)), (50, .int .i64 (p0.Points.length : Int)), (51, .int .i64 (n1 : Int)), (52, .bool (decide ((n1 : Int) < (p0.Points.length : Int)))), (53, .cp [.int .i64 x1.At, .sl 2 (List.map a_Term x1.Facts)]), (54, .agg [.int .i64 x1.At, .sl 2 (List.map a_Term x1.Facts)]), (55, .ptr 654 0 3), (57, .ptr 3463 0 0), (58, .int .i64 x1.At), (59, .fn (.func 155) [] [.cp [.sl 1 (List.map a_bool p1)]]), (60, .ptr 3463 0 0), (61, .int .i64 x1.At), (62, .int .i64 r62), (64, .ptr 3463 0 1), (65, .sl 2 (List.map a_Term x1.Facts)), (66, .ow 4424)], [(13, .box [.snil, .snil, .snil, .snil]), (254, .arr ⟨false, true⟩ 2 184 (List.map a_Term j0.1)), (494, .arr ⟨false, true⟩ 2 184 (List.map a_Term j0.2)), (654, .box [.ow 254, .ow 494, .ow 736, .ow 1942]), (736, .arr ⟨false, false⟩ 2 40 (List.map a_Instr u0)), (1942, .arr ⟨false, true⟩ 2 81 (List.map a_Point s1)), (3463, .box [.int .i64 x1.At, .sl 2 (List.map a_Term x1.Facts)]), (4424, .arr ⟨false, true⟩ 2 184 (List.map a_Term r66))]⟩ ?_ (fun hS3463_25 => ?_)
        · refine TZ_pure 8 (by kernel_rfl) rfl rfl rfl rfl rfl (op_subW rfl rfl) ?_
          refine TZ_pure 12 (by kernel_rfl) rfl rfl rfl rfl rfl (op_buildP pl81 z81 rfl rfl rfl rfl rfl) ?_
          refine TZ_each [1, 13] (by kernel_rfl) rfl ?_
          refine ⟨?_, ?_⟩
          · refine ⟨_, rfl, ?_⟩
            refine TL_pure rfl rfl rfl rfl (op_load_one ag67 rfl rfl) ?_
            refine TL_nil ?_
            refine TZ_keepH [4, 5, 6, 10, 49, 50, 51, 52, 53, 54, 55, 56, 57, 58, 59, 60, 61, 62, 63, 64, 65, 66, 67] [13, 254, 494, 654, 736, 1942, 3463, 4424] rfl rfl rfl rfl (by rw [hF]; rfl) ?_
            exact hS3463_15
          · refine ⟨_, rfl, ?_⟩
            refine TL_buildSliceD (ids := [4424]) (es := List.map a_Point [(Point.mk (w64 (x1.At - r62)) r66)]) 4584 el67 z81 rfl rfl rfl rfl rfl rfl (by rw [hF]; intro j hj; simp only [List.mem_cons, List.not_mem_nil, or_false] at hj; rcases hj with rfl <;> rfl) rfl rfl rfl rfl rfl rfl ?_
            refine TL_nil ?_
            refine TZ_keepH [4, 5, 6, 10, 49, 50, 51, 52, 53, 54, 55, 57, 58, 59, 60, 61, 62, 63, 64, 65, 66, 67, 68] [13, 254, 494, 654, 736, 1942, 3463, 4584] rfl rfl rfl rfl (by rw [hF]; rfl) ?_
            exact hS3463_16
        refine TZ_cut 8 [true, false, true, false, true, true, true, true, false, true, true, true, false, false, false, false, false] ⟨[(4, .ptr 13 0 0), (5, .ptr 654 0 0), (6, .fn (.func 155) [] [.cp [.sl 1 (List.map a_bool p1)]]), (10, .ptr 3463 0 0), (49, .sl 2 (List.map a_Point p0.Points)), (50, .int .i64 (p0.Points.length : Int)), (51, .int .i64 (n1 : Int)), (52, .bool (decide ((n1 : Int) < (p0.Points.length : Int)))), (53, .cp [.int .i64 x1.At, .sl 2 (List.map a_Term x1.Facts)]), (54, .agg [.int .i64 x1.At, .sl 2 (List.map a_Term x1.Facts)]), (55, .ptr 654 0 3), (57, .ptr 3463 0 0), (59, .fn (.func 155) [] [.cp [.sl 1 (List.map a_bool p1)]]), (60, .ptr 3463 0 0), (61, .int .i64 x1.At), (62, .int .i64 r62), (64, .ptr 3463 0 1), (65, .sl 2 (List.map a_Term x1.Facts)), (66, .ow 4424)], [(13, .box [.snil, .snil, .snil, .snil]), (254, .arr ⟨false, true⟩ 2 184 (List.map a_Term j0.1)), (494, .arr ⟨false, true⟩ 2 184 (List.map a_Term j0.2)), (654, .box [.ow 254, .ow 494, .ow 736, .ow 1942]), (736, .arr ⟨false, false⟩ 2 40 (List.map a_Instr u0)), (1942, .arr ⟨false, true⟩ 2 81 (List.map a_Point s1)), (3463, .box [.int .i64 x1.At, .sl 2 (List.map a_Term x1.Facts)]), (4424, .arr ⟨false, true⟩ 2 184 (List.map a_Term r66))]⟩ ?_ (fun hS3463_26 => ?_)
        · refine TZ_each [1, 3] (by kernel_rfl) rfl ?_
          refine ⟨?_, ?_⟩
          · refine ⟨_, rfl, ?_⟩
            refine TL_pure rfl rfl rfl rfl (op_load_one ag67 rfl rfl) ?_
            refine TL_nil ?_
            refine TZ_keepH [4, 5, 6, 10, 49, 50, 51, 52, 53, 54, 55, 56, 57, 59, 60, 61, 62, 64, 65, 66] [13, 254, 494, 654, 736, 1942, 3463, 4424] rfl rfl rfl rfl (by rw [hF]; rfl) ?_
            exact hS3463_6
          · refine ⟨_, rfl, ?_⟩
            refine TL_pure rfl rfl rfl rfl (op_load_one ag2 rfl rfl) ?_
            refine TL_nil ?_
            refine TZ_keepH [4, 5, 6, 10, 49, 50, 51, 52, 53, 54, 55, 57, 58, 59, 60, 61, 62, 64, 65, 66] [13, 254, 494, 654, 736, 1942, 3463, 4424] rfl rfl rfl rfl (by rw [hF]; rfl) ?_
            exact hS3463_25
        refine TZ_cut 9 [true, false, true, false, true, true, true, true, false, true, true, false, false, false, false, false, false] ⟨[(4, .ptr 13 0 0), (5, .ptr 654 0 0), (6, .fn (.func 155) [] [.cp [.sl 1 (List.map a_bool p1)]]), (10, .ptr 3463 0 0), (49, .sl 2 (List.map a_Point p0.Points)), (50, .int .i64 (p0.Points.length : Int)), (51, .int .i64 (n1 : Int)), (52, .bool (decide ((n1 : Int) < (p0.Points.length : Int)))), (53, .cp [.int .i64 x1.At, .sl 2 (List.map a_Term x1.Facts)]), (54, .agg [.int .i64 x1.At, .sl 2 (List.map a_Term x1.Facts)]), (55, .ptr 654 0 3), (57, .ptr 3463 0 0), (59, .fn (.func 155) [] [.cp [.sl 1 (List.map a_bool p1)]]), (60, .ptr 3463 0 0), (61, .int .i64 x1.At), (62, .int .i64 r62), (64, .ptr 3463 0 1), (65, .sl 2 (List.map a_Term x1.Facts))], [(13, .box [.snil, .snil, .snil, .snil]), (254, .arr ⟨false, true⟩ 2 184 (List.map a_Term j0.1)), (494, .arr ⟨false, true⟩ 2 184 (List.map a_Term j0.2)), (654, .box [.ow 254, .ow 494, .ow 736, .ow 1942]), (736, .arr ⟨false, false⟩ 2 40 (List.map a_Instr u0)), (1942, .arr ⟨false, true⟩ 2 81 (List.map a_Point s1)), (3463, .box [.int .i64 x1.At, .sl 2 (List.map a_Term x1.Facts)])]⟩ ?_ (fun hS3463_27 => ?_)
        · refine TZ_each [1, 3, 11] (by kernel_rfl) rfl ?_
          refine ⟨?_, ?_, ?_⟩
          · refine ⟨_, rfl, ?_⟩
            refine TL_pure rfl rfl rfl rfl (op_load_one ag67 rfl rfl) ?_
            refine TL_nil ?_
            refine TZ_keepH [4, 5, 6, 10, 49, 50, 51, 52, 53, 54, 55, 56, 57, 59, 60, 61, 62, 64, 65] [13, 254, 494, 654, 736, 1942, 3463] rfl rfl rfl rfl (by rw [hF]; rfl) ?_
            exact hS3463_7
          · refine ⟨_, rfl, ?_⟩
            refine TL_pure rfl rfl rfl rfl (op_load_one ag2 rfl rfl) ?_
            refine TL_nil ?_
            refine TZ_keepH [4, 5, 6, 10, 49, 50, 51, 52, 53, 54, 55, 57, 58, 59, 60, 61, 62, 64, 65] [13, 254, 494, 654, 736, 1942, 3463] rfl rfl rfl rfl (by rw [hF]; rfl) ?_
            exact hS3463_20
          · refine ⟨_, rfl, ?_⟩
            refine TL_callO [(1000, 4424)] (c_impl_ownTerms x1.Facts r66 hr66) Try.call106 rfl rfl rfl rfl rfl rfl rfl rfl rfl rfl rfl rfl rfl ?_
            refine TL_nil ?_
            refine TZ_keepH [4, 5, 6, 10, 49, 50, 51, 52, 53, 54, 55, 57, 59, 60, 61, 62, 64, 65, 66] [13, 254, 494, 654, 736, 1942, 3463, 4424] rfl rfl rfl rfl (by rw [hF]; rfl) ?_
            exact hS3463_26
        refine TZ_cut 10 [true, false, true, false, true, true, true, true, false, true, false, false, false, false, false, false, false] ⟨[(4, .ptr 13 0 0), (5, .ptr 654 0 0), (6, .fn (.func 155) [] [.cp [.sl 1 (List.map a_bool p1)]]), (10, .ptr 3463 0 0), (49, .sl 2 (List.map a_Point p0.Points)), (50, .int .i64 (p0.Points.length : Int)), (51, .int .i64 (n1 : Int)), (52, .bool (decide ((n1 : Int) < (p0.Points.length : Int)))), (53, .cp [.int .i64 x1.At, .sl 2 (List.map a_Term x1.Facts)]), (54, .agg [.int .i64 x1.At, .sl 2 (List.map a_Term x1.Facts)]), (55, .ptr 654 0 3), (57, .ptr 3463 0 0), (59, .fn (.func 155) [] [.cp [.sl 1 (List.map a_bool p1)]]), (60, .ptr 3463 0 0), (61, .int .i64 x1.At), (62, .int .i64 r62), (64, .ptr 3463 0 1)], [(13, .box [.snil, .snil, .snil, .snil]), (254, .arr ⟨false, true⟩ 2 184 (List.map a_Term j0.1)), (494, .arr ⟨false, true⟩ 2 184 (List.map a_Term j0.2)), (654, .box [.ow 254, .ow 494, .ow 736, .ow 1942]), (736, .arr ⟨false, false⟩ 2 40 (List.map a_Instr u0)), (1942, .arr ⟨false, true⟩ 2 81 (List.map a_Point s1)), (3463, .box [.int .i64 x1.At, .sl 2 (List.map a_Term x1.Facts)])]⟩ ?_ (fun hS3463_28 => ?_)
        · refine TZ_each [1, 3, 10] (by kernel_rfl) rfl ?_
          refine ⟨?_, ?_, ?_⟩
          · refine ⟨_, rfl, ?_⟩
            refine TL_pure rfl rfl rfl rfl (op_load_one ag67 rfl rfl) ?_
            refine TL_nil ?_
            refine TZ_keepH [4, 5, 6, 10, 49, 50, 51, 52, 53, 54, 55, 56, 57, 59, 60, 61, 62, 64] [13, 254, 494, 654, 736, 1942, 3463] rfl rfl rfl rfl (by rw [hF]; rfl) ?_
            exact hS3463_8
          · refine ⟨_, rfl, ?_⟩
            refine TL_pure rfl rfl rfl rfl (op_load_one ag2 rfl rfl) ?_
            refine TL_nil ?_
            refine TZ_keepH [4, 5, 6, 10, 49, 50, 51, 52, 53, 54, 55, 57, 58, 59, 60, 61, 62, 64] [13, 254, 494, 654, 736, 1942, 3463] rfl rfl rfl rfl (by rw [hF]; rfl) ?_
            exact hS3463_19
          · refine ⟨_, rfl, ?_⟩
            refine TL_pure rfl rfl rfl rfl (op_load_one ag66 rfl rfl) ?_
            refine TL_nil ?_
            refine TZ_keepH [4, 5, 6, 10, 49, 50, 51, 52, 53, 54, 55, 57, 59, 60, 61, 62, 64, 65] [13, 254, 494, 654, 736, 1942, 3463] rfl rfl rfl rfl (by rw [hF]; rfl) ?_
            exact hS3463_27
        refine TZ_cut 10 [true, false, true, false, true, true, true, false, false, true, true, false, false, false, false, false, false] ⟨[(4, .ptr 13 0 0), (5, .ptr 654 0 0), (6, .fn (.func 155) [] [.cp [.sl 1 (List.map a_bool p1)]]), (10, .ptr 3463 0 0), (49, .sl 2 (List.map a_Point p0.Points)), (50, .int .i64 (p0.Points.length : Int)), (51, .int .i64 (n1 : Int)), (52, .bool (decide ((n1 : Int) < (p0.Points.length : Int)))), (53, .cp [.int .i64 x1.At, .sl 2 (List.map a_Term x1.Facts)]), (54, .agg [.int .i64 x1.At, .sl 2 (List.map a_Term x1.Facts)]), (55, .ptr 654 0 3), (57, .ptr 3463 0 0), (59, .fn (.func 155) [] [.cp [.sl 1 (List.map a_bool p1)]]), (60, .ptr 3463 0 0), (61, .int .i64 x1.At), (64, .ptr 3463 0 1), (65, .sl 2 (List.map a_Term x1.Facts))], [(13, .box [.snil, .snil, .snil, .snil]), (254, .arr ⟨false, true⟩ 2 184 (List.map a_Term j0.1)), (494, .arr ⟨false, true⟩ 2 184 (List.map a_Term j0.2)), (654, .box [.ow 254, .ow 494, .ow 736, .ow 1942]), (736, .arr ⟨false, false⟩ 2 40 (List.map a_Instr u0)), (1942, .arr ⟨false, true⟩ 2 81 (List.map a_Point s1)), (3463, .box [.int .i64 x1.At, .sl 2 (List.map a_Term x1.Facts)])]⟩ ?_ (fun hS3463_29 => ?_)
        · refine TZ_each [1, 3, 7] (by kernel_rfl) rfl ?_
          refine ⟨?_, ?_, ?_⟩
          · refine ⟨_, rfl, ?_⟩
            refine TL_pure rfl rfl rfl rfl (op_load_one ag67 rfl rfl) ?_
            refine TL_nil ?_
            refine TZ_keepH [4, 5, 6, 10, 49, 50, 51, 52, 53, 54, 55, 56, 57, 59, 60, 61, 64, 65] [13, 254, 494, 654, 736, 1942, 3463] rfl rfl rfl rfl (by rw [hF]; rfl) ?_
            exact hS3463_9
          · refine ⟨_, rfl, ?_⟩
            refine TL_pure rfl rfl rfl rfl (op_load_one ag2 rfl rfl) ?_
            refine TL_nil ?_
            refine TZ_keepH [4, 5, 6, 10, 49, 50, 51, 52, 53, 54, 55, 57, 58, 59, 60, 61, 64, 65] [13, 254, 494, 654, 736, 1942, 3463] rfl rfl rfl rfl (by rw [hF]; rfl) ?_
            exact hS3463_21
          · refine ⟨_, rfl, ?_⟩
            refine TL_callV rfl (c_impl_Annotated_without_1 x1.At p1 r62 hr62) Try.call155 rfl rfl rfl rfl rfl ?_
            refine TL_nil ?_
            refine TZ_keepH [4, 5, 6, 10, 49, 50, 51, 52, 53, 54, 55, 57, 59, 60, 61, 62, 64, 65] [13, 254, 494, 654, 736, 1942, 3463] rfl rfl rfl rfl (by rw [hF]; rfl) ?_
            exact hS3463_27
        refine TZ_cut 11 [true, false, true, false, true, true, true, false, false, true, false, false, false, false, false, false, false] ⟨[(4, .ptr 13 0 0), (5, .ptr 654 0 0), (6, .fn (.func 155) [] [.cp [.sl 1 (List.map a_bool p1)]]), (10, .ptr 3463 0 0), (49, .sl 2 (List.map a_Point p0.Points)), (50, .int .i64 (p0.Points.length : Int)), (51, .int .i64 (n1 : Int)), (52, .bool (decide ((n1 : Int) < (p0.Points.length : Int)))), (53, .cp [.int .i64 x1.At, .sl 2 (List.map a_Term x1.Facts)]), (54, .agg [.int .i64 x1.At, .sl 2 (List.map a_Term x1.Facts)]), (55, .ptr 654 0 3), (57, .ptr 3463 0 0), (59, .fn (.func 155) [] [.cp [.sl 1 (List.map a_bool p1)]]), (60, .ptr 3463 0 0), (61, .int .i64 x1.At), (64, .ptr 3463 0 1)], [(13, .box [.snil, .snil, .snil, .snil]), (254, .arr ⟨false, true⟩ 2 184 (List.map a_Term j0.1)), (494, .arr ⟨false, true⟩ 2 184 (List.map a_Term j0.2)), (654, .box [.ow 254, .ow 494, .ow 736, .ow 1942]), (736, .arr ⟨false, false⟩ 2 40 (List.map a_Instr u0)), (1942, .arr ⟨false, true⟩ 2 81 (List.map a_Point s1)), (3463, .box [.int .i64 x1.At, .sl 2 (List.map a_Term x1.Facts)])]⟩ ?_ (fun hS3463_30 => ?_)
        · refine TZ_each [1, 3, 7, 10] (by kernel_rfl) rfl ?_
          refine ⟨?_, ?_, ?_, ?_⟩
          · refine ⟨_, rfl, ?_⟩
            refine TL_pure rfl rfl rfl rfl (op_load_one ag67 rfl rfl) ?_
            refine TL_nil ?_
            refine TZ_keepH [4, 5, 6, 10, 49, 50, 51, 52, 53, 54, 55, 56, 57, 59, 60, 61, 64] [13, 254, 494, 654, 736, 1942, 3463] rfl rfl rfl rfl (by rw [hF]; rfl) ?_
            exact hS3463_10
          · refine ⟨_, rfl, ?_⟩
            refine TL_pure rfl rfl rfl rfl (op_load_one ag2 rfl rfl) ?_
            refine TL_nil ?_
            refine TZ_keepH [4, 5, 6, 10, 49, 50, 51, 52, 53, 54, 55, 57, 58, 59, 60, 61, 64] [13, 254, 494, 654, 736, 1942, 3463] rfl rfl rfl rfl (by rw [hF]; rfl) ?_
            exact hS3463_22
          · refine ⟨_, rfl, ?_⟩
            refine TL_callV rfl (c_impl_Annotated_without_1 x1.At p1 r62 hr62) Try.call155 rfl rfl rfl rfl rfl ?_
            refine TL_nil ?_
            refine TZ_keepH [4, 5, 6, 10, 49, 50, 51, 52, 53, 54, 55, 57, 59, 60, 61, 62, 64] [13, 254, 494, 654, 736, 1942, 3463] rfl rfl rfl rfl (by rw [hF]; rfl) ?_
            exact hS3463_28
          · refine ⟨_, rfl, ?_⟩
            refine TL_pure rfl rfl rfl rfl (op_load_one ag66 rfl rfl) ?_
            refine TL_nil ?_
            refine TZ_keepH [4, 5, 6, 10, 49, 50, 51, 52, 53, 54, 55, 57, 59, 60, 61, 64, 65] [13, 254, 494, 654, 736, 1942, 3463] rfl rfl rfl rfl (by rw [hF]; rfl) ?_
            exact hS3463_29
        refine TZ_cut 11 [true, false, true, false, true, true, false, false, false, true, true, false, false, false, false, false, false] ⟨[(4, .ptr 13 0 0), (5, .ptr 654 0 0), (6, .fn (.func 155) [] [.cp [.sl 1 (List.map a_bool p1)]]), (10, .ptr 3463 0 0), (49, .sl 2 (List.map a_Point p0.Points)), (50, .int .i64 (p0.Points.length : Int)), (51, .int .i64 (n1 : Int)), (52, .bool (decide ((n1 : Int) < (p0.Points.length : Int)))), (53, .cp [.int .i64 x1.At, .sl 2 (List.map a_Term x1.Facts)]), (54, .agg [.int .i64 x1.At, .sl 2 (List.map a_Term x1.Facts)]), (55, .ptr 654 0 3), (57, .ptr 3463 0 0), (59, .fn (.func 155) [] [.cp [.sl 1 (List.map a_bool p1)]]), (60, .ptr 3463 0 0), (64, .ptr 3463 0 1), (65, .sl 2 (List.map a_Term x1.Facts))], [(13, .box [.snil, .snil, .snil, .snil]), (254, .arr ⟨false, true⟩ 2 184 (List.map a_Term j0.1)), (494, .arr ⟨false, true⟩ 2 184 (List.map a_Term j0.2)), (654, .box [.ow 254, .ow 494, .ow 736, .ow 1942]), (736, .arr ⟨false, false⟩ 2 40 (List.map a_Instr u0)), (1942, .arr ⟨false, true⟩ 2 81 (List.map a_Point s1)), (3463, .box [.int .i64 x1.At, .sl 2 (List.map a_Term x1.Facts)])]⟩ ?_ (fun hS3463_31 => ?_)
        · refine TZ_each [1, 3, 6] (by kernel_rfl) rfl ?_
          refine ⟨?_, ?_, ?_⟩
          · refine ⟨_, rfl, ?_⟩
            refine TL_pure rfl rfl rfl rfl (op_load_one ag67 rfl rfl) ?_
            refine TL_nil ?_
            refine TZ_keepH [4, 5, 6, 10, 49, 50, 51, 52, 53, 54, 55, 56, 57, 59, 60, 64, 65] [13, 254, 494, 654, 736, 1942, 3463] rfl rfl rfl rfl (by rw [hF]; rfl) ?_
            exact hS3463_11
          · refine ⟨_, rfl, ?_⟩
            refine TL_pure rfl rfl rfl rfl (op_load_one ag2 rfl rfl) ?_
            refine TL_nil ?_
            refine TZ_keepH [4, 5, 6, 10, 49, 50, 51, 52, 53, 54, 55, 57, 58, 59, 60, 64, 65] [13, 254, 494, 654, 736, 1942, 3463] rfl rfl rfl rfl (by rw [hF]; rfl) ?_
            exact hS3463_23
          · refine ⟨_, rfl, ?_⟩
            refine TL_pure rfl rfl rfl rfl (op_load_one ag2 rfl rfl) ?_
            refine TL_nil ?_
            refine TZ_keepH [4, 5, 6, 10, 49, 50, 51, 52, 53, 54, 55, 57, 59, 60, 61, 64, 65] [13, 254, 494, 654, 736, 1942, 3463] rfl rfl rfl rfl (by rw [hF]; rfl) ?_
            exact hS3463_29
        refine TZ_each [1, 3, 6, 10] (by kernel_rfl) rfl ?_
        refine ⟨?_, ?_, ?_, ?_⟩
        · refine ⟨_, rfl, ?_⟩
          refine TL_pure rfl rfl rfl rfl (op_load_one ag67 rfl rfl) ?_
          refine TL_nil ?_
          refine TZ_keepH [4, 5, 6, 10, 49, 50, 51, 52, 53, 54, 55, 56, 57, 59, 60, 64] [13, 254, 494, 654, 736, 1942, 3463] rfl rfl rfl rfl (by rw [hF]; rfl) ?_
          exact hS3463_12
        · refine ⟨_, rfl, ?_⟩
          refine TL_pure rfl rfl rfl rfl (op_load_one ag2 rfl rfl) ?_
          refine TL_nil ?_
          refine TZ_keepH [4, 5, 6, 10, 49, 50, 51, 52, 53, 54, 55, 57, 58, 59, 60, 64] [13, 254, 494, 654, 736, 1942, 3463] rfl rfl rfl rfl (by rw [hF]; rfl) ?_
          exact hS3463_24
        · refine ⟨_, rfl, ?_⟩
          refine TL_pure rfl rfl rfl rfl (op_load_one ag2 rfl rfl) ?_
          refine TL_nil ?_
          refine TZ_keepH [4, 5, 6, 10, 49, 50, 51, 52, 53, 54, 55, 57, 59, 60, 61, 64] [13, 254, 494, 654, 736, 1942, 3463] rfl rfl rfl rfl (by rw [hF]; rfl) ?_
          exact hS3463_30
        · refine ⟨_, rfl, ?_⟩
          refine TL_pure rfl rfl rfl rfl (op_load_one ag66 rfl rfl) ?_
          refine TL_nil ?_
          refine TZ_keepH [4, 5, 6, 10, 49, 50, 51, 52, 53, 54, 55, 57, 59, 60, 64, 65] [13, 254, 494, 654, 736, 1942, 3463] rfl rfl rfl rfl (by rw [hF]; rfl) ?_
          exact hS3463_31
    · refine T_seq ?_
      refine T_region ?_
      refine TL_pure rfl rfl rfl rfl (op_lss rfl rfl) ?_
      refine TL_nil ?_
      refine T_seq ?_
      refine T_if_false rfl (decide_eq_false (by simp)) ?_
      refine T_keepH [2, 4, 5, 6] [11, 13, 254, 494, 654, 736] rfl rfl rfl rfl (by rw [hF]; rfl) ?_
      refine T_exit ?_
      exact hx0 s0 hm
    · unfold m_impl_Annotated_without_L0 at hm
      refine T_seq ?_
      refine T_region ?_
      refine TL_pure rfl rfl rfl rfl (op_lss rfl rfl) ?_
      refine TL_nil ?_
      refine T_seq ?_
      refine T_if_true rfl (decide_eq_true (Int.ofNat_lt.2 hlt0)) ?_
      refine T_skip ?_
      refine T_seq ?_
      refine T_block ?_
      refine T_seq ?_
      refine T_region ?_
      refine TL_pure rfl rfl rfl rfl (op_move rfl) ?_
      refine TL_pure rfl rfl rfl rfl (op_index_sl el24 rfl rfl rfl (get_map hxn0) rfl) ?_
      refine TL_pure rfl rfl rfl rfl (op_load_agg ag40 sz40 rfl rfl rfl) ?_
      refine TL_alloc 739 z40 rfl rfl rfl rfl rfl rfl rfl ?_
      refine TL_pure rfl rfl rfl rfl (op_assign rfl) ?_
      refine TL_store_box sz40 rfl rfl rfl rfl rfl rfl rfl rfl rfl ?_
      refine TL_nil ?_
      refine T_seq ?_
      refine T_seq ?_
      refine T_region ?_
      refine TL_pure rfl rfl rfl rfl (op_load_one ag145 rfl rfl) ?_
      refine TL_pure rfl rfl rfl rfl (op_move rfl) ?_
      obtain ⟨x29, hx29, hm⟩ := bindS hm
      refine TL_pure rfl rfl rfl rfl (op_indexT el145 rfl rfl hx29 rfl) ?_
      refine TL_pure rfl rfl rfl rfl (op_load_one ag4 rfl rfl) ?_
      refine TL_nil ?_
      refine T_cond rfl (fun hq => ?_) (fun hq => ?_)
      · replace hm := condT hq hm
        refine T_exit ?_
        refine T_region ?_
        refine TL_pure rfl rfl rfl rfl (op_addN rfl rfl (Nat.lt_of_lt_of_le hlt0 hlen21)) ?_
        refine TL_pure rfl rfl rfl rfl (op_move rfl) ?_
        refine TL_nil ?_
        refine TR_keepH [2, 3, 4, 5, 6, 20, 21, 22] [11, 13, 254, 494, 654, 736] rfl rfl rfl rfl (by rw [hF]; rfl) ?_
        obtain rfl := someI hm
        have hn := CtlOK_next hc0
        exact hn _ rfl
      · replace hm := condF hq hm
        refine T_skip ?_
        refine T_join (fun (j1 : Int) => ⟨[(2, .ptr 11 0 0), (3, .cp [.sl 1 (List.map a_bool p1)]), (4, .ptr 13 0 0), (5, .ptr 654 0 0), (6, .fn (.func 155) [] [.cp [.sl 1 (List.map a_bool p1)]]), (8, .ptr 739 0 0), (20, .sl 2 (List.map a_Instr p0.Code)), (21, .int .i64 (p0.Code.length : Int)), (22, .int .i64 (n0 : Int))], [(11, .box [.sl 2 (List.map a_Term p0.Pre), .sl 2 (List.map a_Term p0.Post), .sl 2 (List.map a_Instr p0.Code), .sl 2 (List.map a_Point p0.Points)]), (13, .box [.snil, .snil, .snil, .snil]), (254, .arr ⟨false, true⟩ 2 184 (List.map a_Term j0.1)), (494, .arr ⟨false, true⟩ 2 184 (List.map a_Term j0.2)), (654, .box [.ow 254, .ow 494, .ow 736, .snil]), (736, .arr ⟨false, false⟩ 2 40 (List.map a_Instr s0)), (739, .box [.int .i64 x0.Op, .int .i64 j1])]⟩) (fun j1 => m_impl_Annotated_without_J1 s0 x0 j1 = some c0) (fun j1 hm => ?_) (fun hj1 => ?_)
        · unfold m_impl_Annotated_without_J1 at hm
          refine T_region ?_
          refine TL_pure rfl rfl rfl rfl (op_fieldAddr fa69_2 rfl rfl) ?_
          refine TL_pure rfl rfl rfl rfl (op_load_one ag24 rfl rfl) ?_
          refine TL_pure rfl rfl rfl rfl (op_load_agg ag40 sz40 rfl rfl rfl) ?_
          refine TL_buildSlice 740 (es := List.map a_Instr [(Instr.mk x0.Op j1)]) el24 z40 rfl rfl rfl rfl rfl rfl rfl rfl rfl ?_
          obtain ⟨q45, hq45, hm⟩ := bindS hm
          refine TL_appendT (f := a_Instr) (a := s0) (b := [(Instr.mk x0.Op j1)]) el24 z40 rfl rfl rfl rfl rfl rfl rfl (capI_spec hq45) rfl rfl rfl rfl rfl ?_
          refine TL_pure rfl rfl rfl rfl (op_fieldAddr fa69_2 rfl rfl) ?_
          refine TL_store_box sz24 rfl rfl rfl rfl rfl rfl rfl rfl rfl ?_
          refine TL_nil ?_
          refine T_region ?_
          refine TL_pure rfl rfl rfl rfl (op_addN rfl rfl (Nat.lt_of_lt_of_le hlt0 hlen21)) ?_
          refine TL_pure rfl rfl rfl rfl (op_move rfl) ?_
          refine TL_nil ?_
          refine TR_keepH [2, 3, 4, 5, 6, 20, 21, 22] [11, 13, 254, 494, 654, 736] rfl rfl rfl rfl (by rw [hF]; rfl) ?_
          obtain rfl := someI hm
          have hn := CtlOK_next hc0
          exact hn _ rfl
        · refine T_seq ?_
          refine T_region ?_
          refine TL_pure rfl rfl rfl rfl (op_load_agg ag40 sz40 rfl rfl rfl) ?_
          obtain ⟨r32, hr32, hm⟩ := bindS hm
          refine TL_callF (c_impl_Instr_isJump x0 r32 hr32) Try.call91 rfl rfl rfl rfl rfl ?_
          refine TL_nil ?_
          refine T_cond rfl (fun hq => ?_) (fun hq => ?_)
          · replace hm := condT hq hm
            refine T_drawZ [8] mix (by kernel_rfl) rfl ?_
            obtain ⟨r38, hr38, hm⟩ := bindS hm
            refine TZ_pure 0 (by kernel_rfl) rfl rfl rfl rfl rfl (op_fieldAddr fa40_1 rfl rfl) ?_
            refine TZ_pure 1 (by kernel_rfl) rfl rfl rfl rfl rfl (op_load_one ag2 rfl rfl) ?_
            refine TZ_pure 2 (by kernel_rfl) rfl rfl rfl rfl rfl (op_move rfl) ?_
            refine TZ_pure 3 (by kernel_rfl) rfl rfl rfl rfl rfl (op_fieldAddr fa40_1 rfl rfl) ?_
            refine TZ_pure 4 (by kernel_rfl) rfl rfl rfl rfl rfl (op_load_one ag2 rfl rfl) ?_
            refine TZ_one 5 (by kernel_rfl) rfl ?_
            refine TL_callV rfl (c_impl_Annotated_without_1 x0.Arg p1 r38 hr38) Try.call155 rfl rfl rfl rfl rfl ?_
            refine TL_nil ?_
            refine TZ_pure 6 (by kernel_rfl) rfl rfl rfl rfl rfl (op_subW rfl rfl) ?_
            refine TZ_pure 7 (by kernel_rfl) rfl rfl rfl rfl rfl (op_fieldAddr fa40_1 rfl rfl) ?_
            refine TZ_one 8 (by kernel_rfl) rfl ?_
            refine TL_store_box sz2 rfl rfl rfl rfl rfl rfl rfl rfl rfl ?_
            refine TL_nil ?_
            refine TZ_done (by kernel_rfl) ?_
            refine T_keepH [2, 3, 4, 5, 6, 8, 20, 21, 22] [11, 13, 254, 494, 654, 736, 739] rfl rfl rfl rfl (by rw [hF]; rfl) ?_
            exact hj1 (w64 (x0.Arg - r38)) hm
          · replace hm := condF hq hm
            refine T_skip ?_
            refine T_keepH [2, 3, 4, 5, 6, 8, 20, 21, 22] [11, 13, 254, 494, 654, 736, 739] rfl rfl rfl rfl (by rw [hF]; rfl) ?_
            exact hj1 x0.Arg hm
  · refine T_drawZ [8] mix (by kernel_rfl) rfl ?_
    obtain ⟨r13, hr13, hm⟩ := bindS hm
    obtain ⟨r16, hr16, hm⟩ := bindS hm
    refine TZ_pure 0 (by kernel_rfl) rfl rfl rfl rfl rfl (op_fieldAddr fa69_0 rfl rfl) ?_
    refine TZ_pure 1 (by kernel_rfl) rfl rfl rfl rfl rfl (op_load_one ag66 rfl rfl) ?_
    refine TZ_pure 3 (by kernel_rfl) rfl rfl rfl rfl rfl (op_fieldAddr fa69_1 rfl rfl) ?_
    refine TZ_pure 4 (by kernel_rfl) rfl rfl rfl rfl rfl (op_load_one ag66 rfl rfl) ?_
    refine TZ_cut 3 [true, true, true, true, true, true, false, false, false] ⟨[(0, .agg [.sl 2 (List.map a_Term p0.Pre), .sl 2 (List.map a_Term p0.Post), .sl 2 (List.map a_Instr p0.Code), .sl 2 (List.map a_Point p0.Points)]), (1, .sl 1 (List.map a_bool p1)), (2, .ptr 11 0 0), (3, .ptr 12 0 0), (4, .ptr 13 0 0), (11, .ptr 11 0 0), (12, .sl 2 (List.map a_Term p0.Pre)), (13, .ow 5066), (14, .ptr 11 0 1), (15, .sl 2 (List.map a_Term p0.Post)), (16, .ow 5306)], [(11, .box [.sl 2 (List.map a_Term p0.Pre), .sl 2 (List.map a_Term p0.Post), .sl 2 (List.map a_Instr p0.Code), .sl 2 (List.map a_Point p0.Points)]), (12, .box [.sl 1 (List.map a_bool p1)]), (13, .box [.snil, .snil, .snil, .snil]), (5066, .arr ⟨false, true⟩ 2 184 (List.map a_Term r13)), (5306, .arr ⟨false, true⟩ 2 184 (List.map a_Term r16))]⟩ ?_ (fun hS4825_0 => ?_)
    · refine TZ_pure 6 (by kernel_rfl) rfl rfl rfl rfl rfl (op_buildP pl69 z69 rfl rfl rfl rfl rfl) ?_
      refine TZ_one 7 (by kernel_rfl) rfl ?_
      refine TL_alloc 5466 z69 rfl rfl rfl rfl rfl rfl rfl ?_
      refine TL_nil ?_
      refine TZ_one 8 (by kernel_rfl) rfl ?_
      refine TL_store_box sz69 rfl rfl rfl rfl rfl rfl rfl rfl rfl ?_
      refine TL_nil ?_
      refine TZ_done (by kernel_rfl) ?_
      refine T_keepH [2, 3, 4, 5] [11, 12, 13, 5066, 5306, 5466] rfl rfl rfl rfl (by rw [hF]; rfl) ?_
      refine T_ren [(11, 11), (12, 12), (13, 13), (5066, 254), (5306, 494), (5466, 654)] rfl rfl rfl (by rw [hF]; rfl) ?_
      exact hj0 (r13, r16) hm
    refine TZ_cut 3 [true, true, true, true, true, false, false, true, false] ⟨[(0, .agg [.sl 2 (List.map a_Term p0.Pre), .sl 2 (List.map a_Term p0.Post), .sl 2 (List.map a_Instr p0.Code), .sl 2 (List.map a_Point p0.Points)]), (1, .sl 1 (List.map a_bool p1)), (2, .ptr 11 0 0), (3, .ptr 12 0 0), (4, .ptr 13 0 0), (5, .ptr 5466 0 0), (11, .ptr 11 0 0), (12, .sl 2 (List.map a_Term p0.Pre)), (13, .ow 5066), (14, .ptr 11 0 1), (15, .sl 2 (List.map a_Term p0.Post))], [(11, .box [.sl 2 (List.map a_Term p0.Pre), .sl 2 (List.map a_Term p0.Post), .sl 2 (List.map a_Instr p0.Code), .sl 2 (List.map a_Point p0.Points)]), (12, .box [.sl 1 (List.map a_bool p1)]), (13, .box [.snil, .snil, .snil, .snil]), (5066, .arr ⟨false, true⟩ 2 184 (List.map a_Term r13)), (5466, .box [.snil, .snil, .snil, .snil])]⟩ ?_ (fun hS4825_1 => ?_)
    · refine TZ_one 5 (by kernel_rfl) rfl ?_
      refine TL_callO [(1000, 5306)] (c_impl_ownTerms p0.Post r16 hr16) Try.call106 rfl rfl rfl rfl rfl rfl rfl rfl rfl rfl rfl rfl rfl ?_
      refine TL_nil ?_
      refine TZ_pure 6 (by kernel_rfl) rfl rfl rfl rfl rfl (op_buildP pl69 z69 rfl rfl rfl rfl rfl) ?_
      refine TZ_one 8 (by kernel_rfl) rfl ?_
      refine TL_store_box sz69 rfl rfl rfl rfl rfl rfl rfl rfl rfl ?_
      refine TL_nil ?_
      refine TZ_done (by kernel_rfl) ?_
      refine T_keepH [2, 3, 4, 5] [11, 12, 13, 5066, 5306, 5466] rfl rfl rfl rfl (by rw [hF]; rfl) ?_
      refine T_ren [(11, 11), (12, 12), (13, 13), (5066, 254), (5306, 494), (5466, 654)] rfl rfl rfl (by rw [hF]; rfl) ?_
      exact hj0 (r13, r16) hm
    refine TZ_cut 4 [true, true, true, true, true, false, false, false, false] ⟨[(0, .agg [.sl 2 (List.map a_Term p0.Pre), .sl 2 (List.map a_Term p0.Post), .sl 2 (List.map a_Instr p0.Code), .sl 2 (List.map a_Point p0.Points)]), (1, .sl 1 (List.map a_bool p1)), (2, .ptr 11 0 0), (3, .ptr 12 0 0), (4, .ptr 13 0 0), (11, .ptr 11 0 0), (12, .sl 2 (List.map a_Term p0.Pre)), (13, .ow 5066), (14, .ptr 11 0 1), (15, .sl 2 (List.map a_Term p0.Post))], [(11, .box [.sl 2 (List.map a_Term p0.Pre), .sl 2 (List.map a_Term p0.Post), .sl 2 (List.map a_Instr p0.Code), .sl 2 (List.map a_Point p0.Points)]), (12, .box [.sl 1 (List.map a_bool p1)]), (13, .box [.snil, .snil, .snil, .snil]), (5066, .arr ⟨false, true⟩ 2 184 (List.map a_Term r13))]⟩ ?_ (fun hS4825_2 => ?_)
    · refine TZ_each [5, 7] (by kernel_rfl) rfl ?_
      refine ⟨?_, ?_⟩
      · refine ⟨_, rfl, ?_⟩
        refine TL_callO [(1000, 5306)] (c_impl_ownTerms p0.Post r16 hr16) Try.call106 rfl rfl rfl rfl rfl rfl rfl rfl rfl rfl rfl rfl rfl ?_
        refine TL_nil ?_
        refine TZ_keepH [0, 1, 2, 3, 4, 11, 12, 13, 14, 15, 16] [11, 12, 13, 5066, 5306] rfl rfl rfl rfl (by rw [hF]; rfl) ?_
        exact hS4825_0
      · refine ⟨_, rfl, ?_⟩
        refine TL_alloc 5466 z69 rfl rfl rfl rfl rfl rfl rfl ?_
        refine TL_nil ?_
        refine TZ_keepH [0, 1, 2, 3, 4, 5, 11, 12, 13, 14, 15] [11, 12, 13, 5066, 5466] rfl rfl rfl rfl (by rw [hF]; rfl) ?_
        exact hS4825_1
    refine TZ_cut 4 [true, true, false, true, true, false, false, true, false] ⟨[(0, .agg [.sl 2 (List.map a_Term p0.Pre), .sl 2 (List.map a_Term p0.Post), .sl 2 (List.map a_Instr p0.Code), .sl 2 (List.map a_Point p0.Points)]), (1, .sl 1 (List.map a_bool p1)), (2, .ptr 11 0 0), (3, .ptr 12 0 0), (4, .ptr 13 0 0), (5, .ptr 5466 0 0), (11, .ptr 11 0 0), (12, .sl 2 (List.map a_Term p0.Pre)), (14, .ptr 11 0 1), (15, .sl 2 (List.map a_Term p0.Post))], [(11, .box [.sl 2 (List.map a_Term p0.Pre), .sl 2 (List.map a_Term p0.Post), .sl 2 (List.map a_Instr p0.Code), .sl 2 (List.map a_Point p0.Points)]), (12, .box [.sl 1 (List.map a_bool p1)]), (13, .box [.snil, .snil, .snil, .snil]), (5466, .box [.snil, .snil, .snil, .snil])]⟩ ?_ (fun hS4825_3 => ?_)
    · refine TZ_one 2 (by kernel_rfl) rfl ?_
      refine TL_callO [(1000, 5066)] (c_impl_ownTerms p0.Pre r13 hr13) Try.call106 rfl rfl rfl rfl rfl rfl rfl rfl rfl rfl rfl rfl rfl ?_
      refine TL_nil ?_
      refine TZ_one 5 (by kernel_rfl) rfl ?_
      refine TL_callO [(1000, 5306)] (c_impl_ownTerms p0.Post r16 hr16) Try.call106 rfl rfl rfl rfl rfl rfl rfl rfl rfl rfl rfl rfl rfl ?_
      refine TL_nil ?_
      refine TZ_pure 6 (by kernel_rfl) rfl rfl rfl rfl rfl (op_buildP pl69 z69 rfl rfl rfl rfl rfl) ?_
      refine TZ_one 8 (by kernel_rfl) rfl ?_
      refine TL_store_box sz69 rfl rfl rfl rfl rfl rfl rfl rfl rfl ?_
      refine TL_nil ?_
      refine TZ_done (by kernel_rfl) ?_
      refine T_keepH [2, 3, 4, 5] [11, 12, 13, 5066, 5306, 5466] rfl rfl rfl rfl (by rw [hF]; rfl) ?_
      refine T_ren [(11, 11), (12, 12), (13, 13), (5066, 254), (5306, 494), (5466, 654)] rfl rfl rfl (by rw [hF]; rfl) ?_
      exact hj0 (r13, r16) hm
    refine TZ_each [2, 7] (by kernel_rfl) rfl ?_
    refine ⟨?_, ?_⟩
    · refine ⟨_, rfl, ?_⟩
      refine TL_callO [(1000, 5066)] (c_impl_ownTerms p0.Pre r13 hr13) Try.call106 rfl rfl rfl rfl rfl rfl rfl rfl rfl rfl rfl rfl rfl ?_
      refine TL_nil ?_
      refine TZ_keepH [0, 1, 2, 3, 4, 11, 12, 13, 14, 15] [11, 12, 13, 5066] rfl rfl rfl rfl (by rw [hF]; rfl) ?_
      exact hS4825_2
    · refine ⟨_, rfl, ?_⟩
      refine TL_alloc 5466 z69 rfl rfl rfl rfl rfl rfl rfl ?_
      refine TL_nil ?_
      refine TZ_keepH [0, 1, 2, 3, 4, 5, 11, 12, 14, 15] [11, 12, 13, 5466] rfl rfl rfl rfl (by rw [hF]; rfl) ?_
      exact hS4825_3
theorem c_impl_DropIdleJumps (p0 : Annotated) (out : Annotated × Bool) (hm : m_impl_DropIdleJumps p0 = some out) : ACall Try.prog 49 [.agg [.sl 2 (List.map a_Term p0.Pre), .sl 2 (List.map a_Term p0.Post), .sl 2 (List.map a_Instr p0.Code), .sl 2 (List.map a_Point p0.Points)]] [] (.tup [.agg [.ow 1000, .ow 1001, .ow 1002, .ow 1003], .bool out.2]) [(1000, .arr ⟨false, true⟩ 2 184 (List.map a_Term out.1.Pre)), (1001, .arr ⟨false, true⟩ 2 184 (List.map a_Term out.1.Post)), (1002, .arr ⟨false, true⟩ 2 40 (List.map a_Instr out.1.Code)), (1003, .arr ⟨false, true⟩ 2 81 (List.map a_Point out.1.Points))] := by
  refine ACall.intro Try.func49 rfl Try.ntmps49 rfl (fun F hF => ?_)
  unfold m_impl_DropIdleJumps at hm
  refine T_seq ?_
  refine T_region ?_
  refine TL_box 11 rfl rfl rfl rfl rfl rfl rfl ?_
  refine TL_alloc 12 z69 rfl rfl rfl rfl rfl rfl rfl ?_
  refine TL_pure rfl rfl rfl rfl (op_assign rfl) ?_
  refine TL_nil ?_
  refine T_seq ?_
  refine T_seq ?_
  refine T_region ?_
  refine TL_pure rfl rfl rfl rfl (op_load_agg ag69 sz69 rfl rfl rfl) ?_
  obtain ⟨r9, hr9, hm⟩ := bindS hm
  refine TL_callF (c_impl_ValidAnnotated p0 r9 hr9) Try.call89 rfl rfl rfl rfl rfl ?_
  refine TL_pure rfl rfl rfl rfl (op_not rfl) ?_
  refine TL_nil ?_
  refine T_cond rfl (fun hq => ?_) (fun hq => ?_)
  · replace hm := condT hq hm
    refine T_seq ?_
    refine T_region ?_
    refine TL_pure rfl rfl rfl rfl (op_buildP pl69 z69 rfl rfl rfl rfl rfl) ?_
    refine TL_store_box sz69 rfl rfl rfl rfl rfl rfl rfl rfl rfl ?_
    refine TL_pure rfl rfl rfl rfl (op_assign rfl) ?_
    refine TL_nil ?_
    refine T_ownNilBox 12 0 13 ⟨false, true⟩ 184 rfl rfl rfl (sz := 2) rfl rfl rfl rfl ?_
    refine T_ownNilBox 12 1 14 ⟨false, true⟩ 184 rfl rfl rfl (sz := 2) rfl rfl rfl rfl ?_
    refine T_ownNilBox 12 2 15 ⟨false, true⟩ 40 rfl rfl rfl (sz := 2) rfl rfl rfl rfl ?_
    refine T_ownNilBox 12 3 16 ⟨false, true⟩ 81 rfl rfl rfl (sz := 2) rfl rfl rfl rfl ?_
    refine T_keepH [2, 3] [12, 13, 14, 15, 16] rfl rfl rfl rfl (by rw [hF]; rfl) ?_
    refine T_ren [(12, 12), (13, 1000), (14, 1001), (15, 1002), (16, 1003)] rfl rfl rfl (by rw [hF]; rfl) ?_
    refine T_ret ?_
    obtain rfl := someI hm
    refine ⟨[_, _], [1000, 1001, 1002, 1003], ⟨⟨_, _, rfl, rfl, .inr ⟨ag69, _, _, sz69, rfl, rfl⟩⟩, rfl, trivial⟩, ?_, rfl, rfl, rfl, rfl⟩
    rfl
  · replace hm := condF hq hm
    refine T_skip ?_
    refine T_seq ?_
    refine T_region ?_
    refine TL_pure rfl rfl rfl rfl (op_load_agg ag69 sz69 rfl rfl rfl) ?_
    obtain ⟨r13, hr13, hm⟩ := bindS hm
    refine TL_callO [(1000, 17), (1001, 18), (1002, 19), (1003, 20)] (c_impl_Annotated_own p0 r13 hr13) Try.call90 rfl rfl rfl rfl rfl rfl rfl rfl rfl rfl rfl rfl rfl ?_
    refine TL_alloc 21 z69 rfl rfl rfl rfl rfl rfl rfl ?_
    refine TL_store_box sz69 rfl rfl rfl rfl rfl rfl rfl rfl rfl ?_
    refine TL_nil ?_
    refine T_seq ?_
    refine T_seq ?_
    refine T_region ?_
    refine TL_pure rfl rfl rfl rfl (op_fieldAddr fa69_2 rfl rfl) ?_
    refine TL_pure rfl rfl rfl rfl (op_load_one ag24 rfl rfl) ?_
    refine TL_pure rfl rfl rfl rfl (op_lenT Try.underlying24 rfl (List.length_map _)) ?_
    refine TL_fact (fun _ _ _ hr => RelP.slLen (i := 15) rfl hr) (fun hlen16 => ?_)
    rw [List.length_map] at hlen16
    refine TL_pure rfl rfl rfl rfl (op_subW rfl rfl) ?_
    refine TL_pure rfl rfl rfl rfl (op_assign rfl) ?_
    refine TL_nil ?_
    refine T_block ?_
    refine T_keepH [2, 4, 5] [12, 17, 18, 19, 20, 21] rfl rfl rfl rfl (by rw [hF]; rfl) ?_
    refine T_loop ?_
    obtain ⟨u0, hl0, hm⟩ := bindS hm
    refine TR_iter2 (m_impl_DropIdleJumps_L0) (fun (s0 : (List Term) × (List Term) × (List Instr) × (List Point) × Int) => ⟨[(2, .ptr 12 0 0), (4, .ptr 21 0 0), (5, .int .i64 s0.2.2.2.2)], [(12, .box [.snil, .snil, .snil, .snil]), (17, .arr ⟨false, true⟩ 2 184 (List.map a_Term s0.1)), (18, .arr ⟨false, true⟩ 2 184 (List.map a_Term s0.2.1)), (19, .arr ⟨false, true⟩ 2 40 (List.map a_Instr s0.2.2.1)), (20, .arr ⟨false, true⟩ 2 81 (List.map a_Point s0.2.2.2.1)), (21, .box [.ow 17, .ow 18, .ow 19, .ow 20])]⟩) (fun u0 => .exit 0) (fun u0 => ⟨[(2, .ptr 12 0 0), (4, .ptr 21 0 0)], [(12, .box [.snil, .snil, .snil, .snil]), (17, .arr ⟨false, true⟩ 2 184 (List.map a_Term u0.1)), (18, .arr ⟨false, true⟩ 2 184 (List.map a_Term u0.2.1)), (19, .arr ⟨false, true⟩ 2 40 (List.map a_Instr u0.2.2.1)), (20, .arr ⟨false, true⟩ 2 81 (List.map a_Point u0.2.2.2)), (21, .box [.ow 17, .ow 18, .ow 19, .ow 20])]⟩) (fun u0 => m_impl_DropIdleJumps_A0 u0 = some out) hl0 hm (fun u0 hm => ?_) (fun hx0 s0 c0 hm hc0 => ?_)
    · unfold m_impl_DropIdleJumps_A0 at hm
      refine T_seq ?_
      refine T_region ?_
      refine TL_pure rfl rfl rfl rfl (op_load_agg ag69 sz69 rfl rfl rfl) ?_
      refine TL_store_box sz69 rfl rfl rfl rfl rfl rfl rfl rfl rfl ?_
      refine TL_pure rfl rfl rfl rfl (op_assign rfl) ?_
      refine TL_nil ?_
      refine T_keepH [2, 3] [12, 17, 18, 19, 20] rfl rfl rfl rfl (by rw [hF]; rfl) ?_
      refine T_ren [(12, 12), (17, 1000), (18, 1001), (19, 1002), (20, 1003)] rfl rfl rfl (by rw [hF]; rfl) ?_
      refine T_ret ?_
      obtain rfl := someI hm
      refine ⟨[_, _], [1000, 1001, 1002, 1003], ⟨⟨_, _, rfl, rfl, .inr ⟨ag69, _, _, sz69, rfl, rfl⟩⟩, rfl, trivial⟩, ?_, rfl, rfl, rfl, rfl⟩
      rfl
    · unfold m_impl_DropIdleJumps_L0 at hm
      refine T_seq ?_
      refine T_seq ?_
      refine T_region ?_
      refine TL_pure rfl rfl rfl rfl (op_move rfl) ?_
      refine TL_pure rfl rfl rfl rfl (op_geq rfl rfl) ?_
      refine TL_nil ?_
      refine T_cond rfl (fun hq => ?_) (fun hq => ?_)
      · replace hm := condT hq hm
        refine T_skip ?_
        refine T_seq ?_
        refine T_block ?_
        refine T_seq ?_
        refine T_region ?_
        refine TL_pure rfl rfl rfl rfl (op_fieldAddr fa69_2 rfl rfl) ?_
        refine TL_pure rfl rfl rfl rfl (op_load_one ag24 rfl rfl) ?_
        refine TL_pure rfl rfl rfl rfl (op_move rfl) ?_
        obtain ⟨x25, hx25, hm⟩ := bindS hm
        refine TL_pure rfl rfl rfl rfl (op_indexO el24 rfl rfl rfl hx25) ?_
        refine TL_pure rfl rfl rfl rfl (op_loadDN ag40 sz40 rfl rfl ((getI_spec hx25).2) rfl rfl rfl rfl) ?_
        refine TL_alloc 34 z40 rfl rfl rfl rfl rfl rfl rfl ?_
        refine TL_store_box sz40 rfl rfl rfl rfl rfl rfl rfl rfl rfl ?_
        refine TL_nil ?_
        refine T_join (fun (j0 : Bool) => ⟨[(2, .ptr 12 0 0), (4, .ptr 21 0 0), (5, .int .i64 s0.2.2.2.2), (48, .bool j0)], [(12, .box [.snil, .snil, .snil, .snil]), (17, .arr ⟨false, true⟩ 2 184 (List.map a_Term s0.1)), (18, .arr ⟨false, true⟩ 2 184 (List.map a_Term s0.2.1)), (19, .arr ⟨false, true⟩ 2 40 (List.map a_Instr s0.2.2.1)), (20, .arr ⟨false, true⟩ 2 81 (List.map a_Point s0.2.2.2.1)), (21, .box [.ow 17, .ow 18, .ow 19, .ow 20])]⟩) (fun j0 => m_impl_DropIdleJumps_J0 s0 j0 = some c0) (fun j0 hm => ?_) (fun hj0 => ?_)
        · unfold m_impl_DropIdleJumps_J0 at hm
          refine T_cond rfl (fun hq => ?_) (fun hq => ?_)
          · replace hm := condT hq hm
            refine T_seq ?_
            refine T_region ?_
            refine TL_pure rfl rfl rfl rfl (op_fieldAddr fa69_2 rfl rfl) ?_
            refine TL_pure rfl rfl rfl rfl (op_load_one ag24 rfl rfl) ?_
            refine TL_pure rfl rfl rfl rfl (op_lenO Try.underlying24 rfl rfl (List.length_map _)) ?_
            refine TL_fact (fun _ _ _ hr => RelP.owLen (id := 19) rfl hr) (fun hlen51 => ?_)
            rw [List.length_map] at hlen51
            obtain ⟨k52, hk52, hm⟩ := bindS hm
            refine TL_make 35 (n := k52) el145 z4 rfl rfl rfl rfl rfl rfl (makeI_spec hk52).1 (makeI_spec hk52).1 (makeI_spec hk52).2 rfl rfl rfl rfl ?_
            refine TL_nils 35 (List.map a_bool (List.replicate k52 false)) (by rw [hF]; rfl) rfl (ElR.rep (z := .bool false) (g := a_bool) (x := false) ⟨⟨rfl, rfl⟩, trivial⟩ k52) rfl ?_
            refine TL_pure rfl rfl rfl rfl (op_assign rfl) ?_
            refine TL_nil ?_
            refine T_seq ?_
            refine T_region ?_
            refine TL_pure rfl rfl rfl rfl (op_move rfl) ?_
            refine TL_pure rfl rfl rfl rfl (op_move rfl) ?_
            obtain ⟨x55, hx55, hm⟩ := bindS hm
            refine TL_pure rfl rfl rfl rfl (op_indexO el145 rfl rfl rfl hx55) ?_
            refine TL_storeT sz4 rfl rfl ((getI_spec hx55).2) (v' := true) rfl rfl rfl rfl rfl rfl rfl rfl rfl rfl ?_
            refine TL_nil ?_
            refine T_region ?_
            refine TL_pure rfl rfl rfl rfl (op_load_agg ag69 sz69 rfl rfl rfl) ?_
            refine TL_pure rfl rfl rfl rfl (op_move rfl) ?_
            obtain ⟨r58, hr58, hm⟩ := bindS hm
            refine TL_callO [(1000, 36), (1001, 37), (1002, 38), (1003, 39)] (c_impl_Annotated_without (Annotated.mk s0.1 s0.2.1 s0.2.2.1 s0.2.2.2.1) ((List.replicate k52 false).set ((s0.2.2.2.2).toNat) true) r58 hr58) Try.call102 rfl rfl rfl rfl rfl rfl rfl rfl rfl rfl rfl rfl rfl ?_
            refine TL_store_box sz69 rfl rfl rfl rfl rfl rfl rfl rfl rfl ?_
            refine TL_nil ?_
            refine T_region ?_
            refine TL_pure rfl rfl rfl rfl (op_move rfl) ?_
            refine TL_pure rfl rfl rfl rfl (op_subW rfl rfl) ?_
            refine TL_pure rfl rfl rfl rfl (op_assign rfl) ?_
            refine TL_nil ?_
            refine TR_keepH [2, 4, 5] [12, 21, 36, 37, 38, 39] rfl rfl rfl rfl (by rw [hF]; rfl) ?_
            refine TR_ren [(12, 12), (21, 21), (36, 17), (37, 18), (38, 19), (39, 20)] rfl rfl rfl (by rw [hF]; rfl) ?_
            refine TR_keepH [2, 4, 5] [12, 17, 18, 19, 20, 21] rfl rfl rfl rfl (by rw [hF]; rfl) ?_
            obtain rfl := someI hm
            have hn := CtlOK_next hc0
            exact hn _ rfl
          · replace hm := condF hq hm
            refine T_skip ?_
            refine T_region ?_
            refine TL_pure rfl rfl rfl rfl (op_move rfl) ?_
            refine TL_pure rfl rfl rfl rfl (op_subW rfl rfl) ?_
            refine TL_pure rfl rfl rfl rfl (op_assign rfl) ?_
            refine TL_nil ?_
            refine TR_keepH [2, 4, 5] [12, 17, 18, 19, 20, 21] rfl rfl rfl rfl (by rw [hF]; rfl) ?_
            obtain rfl := someI hm
            have hn := CtlOK_next hc0
            exact hn _ rfl
        · refine T_region ?_
          refine TL_pure rfl rfl rfl rfl (op_fieldAddr fa40_0 rfl rfl) ?_
          refine TL_pure rfl rfl rfl rfl (op_load_one ag2 rfl rfl) ?_
          refine TL_pure rfl rfl rfl rfl (op_eql rfl rfl) ?_
          refine TL_pure rfl rfl rfl rfl (op_move rfl) ?_
          refine TL_join 6 (fun _ : Unit => ⟨[(2, .ptr 12 0 0), (4, .ptr 21 0 0), (5, .int .i64 s0.2.2.2.2), (36, .bool ((decide (x25.Op = (5 : Int))) && (decide (x25.Arg = (w64 (s0.2.2.2.2 + (1 : Int)))))))], [(12, .box [.snil, .snil, .snil, .snil]), (17, .arr ⟨false, true⟩ 2 184 (List.map a_Term s0.1)), (18, .arr ⟨false, true⟩ 2 184 (List.map a_Term s0.2.1)), (19, .arr ⟨false, true⟩ 2 40 (List.map a_Instr s0.2.2.1)), (20, .arr ⟨false, true⟩ 2 81 (List.map a_Point s0.2.2.2.1)), (21, .box [.ow 17, .ow 18, .ow 19, .ow 20])]⟩) (fun _ => True) (fun _ _ => ?_) (fun hjj => ?_)
          · refine TL_pure rfl rfl rfl rfl (op_move rfl) ?_
            refine TL_split 37 rfl rfl rfl (fun hq => ?_) (fun hq => ?_)
            · replace hm := condT hq hm
              refine TL_want rfl rfl ?_
              refine TL_pure rfl rfl rfl rfl (op_load_agg ag69 sz69 rfl rfl rfl) ?_
              refine TL_want rfl rfl ?_
              refine TL_pure rfl rfl rfl rfl (op_move rfl) ?_
              refine TL_want rfl rfl ?_
              obtain ⟨r40, hr40, hm⟩ := bindS hm
              refine TL_callF (c_impl_Annotated_point (Annotated.mk s0.1 s0.2.1 s0.2.2.1 s0.2.2.2.1) s0.2.2.2.2 r40 hr40) Try.call93 rfl rfl rfl rfl rfl ?_
              refine TL_want rfl rfl ?_
              refine TL_pure rfl rfl rfl rfl (op_lss rfl rfl) ?_
              refine TL_pure rfl rfl rfl rfl (op_pick_true rfl rfl) ?_
              refine TL_pure rfl rfl rfl rfl (op_move rfl) ?_
              refine TL_join 5 (fun _ : Unit => ⟨[(2, .ptr 12 0 0), (4, .ptr 21 0 0), (5, .int .i64 s0.2.2.2.2), (38, .agg [.ow 17, .ow 18, .ow 19, .ow 20]), (39, .int .i64 s0.2.2.2.2), (40, .int .i64 r40), (41, .bool (decide (r40 < (0 : Int)))), (48, .bool ((decide (r40 < (0 : Int))) && (decide ((1 : Int) < (s0.2.2.1.length : Int)))))], [(12, .box [.snil, .snil, .snil, .snil]), (17, .arr ⟨false, true⟩ 2 184 (List.map a_Term s0.1)), (18, .arr ⟨false, true⟩ 2 184 (List.map a_Term s0.2.1)), (19, .arr ⟨false, true⟩ 2 40 (List.map a_Instr s0.2.2.1)), (20, .arr ⟨false, true⟩ 2 81 (List.map a_Point s0.2.2.2.1)), (21, .box [.ow 17, .ow 18, .ow 19, .ow 20])]⟩) (fun _ => True) (fun _ _ => ?_) (fun hjj => ?_)
              · refine TL_nil ?_
                refine T_keepH [2, 4, 5, 48] [12, 17, 18, 19, 20, 21] rfl rfl rfl rfl (by rw [hF]; rfl) ?_
                exact hj0 ((decide (r40 < (0 : Int))) && (decide ((1 : Int) < (s0.2.2.1.length : Int)))) hm
              · refine TL_split 43 rfl rfl rfl (fun hq => ?_) (fun hq => ?_)
                · refine TL_want rfl rfl ?_
                  refine TL_pure rfl rfl rfl rfl (op_fieldAddr fa69_2 rfl rfl) ?_
                  refine TL_want rfl rfl ?_
                  refine TL_pure rfl rfl rfl rfl (op_load_one ag24 rfl rfl) ?_
                  refine TL_want rfl rfl ?_
                  refine TL_pure rfl rfl rfl rfl (op_lenO Try.underlying24 rfl rfl (List.length_map _)) ?_
                  refine TL_fact (fun _ _ _ hr => RelP.owLen (id := 19) rfl hr) (fun hlen46 => ?_)
                  rw [List.length_map] at hlen46
                  refine TL_want rfl rfl ?_
                  refine TL_pure rfl rfl rfl rfl (op_gtr rfl rfl) ?_
                  refine TL_pure rfl rfl rfl rfl (op_pick_true rfl rfl) ?_
                  refine TL_keepH [2, 4, 5, 38, 39, 40, 41, 48] [12, 17, 18, 19, 20, 21] rfl rfl rfl rfl (by rw [hF]; rfl) ?_
                  exact TL_cast _ (by rw [hq]; rfl) (hjj () trivial)
                · refine TL_pass rfl rfl rfl rfl rfl rfl rfl ?_
                  refine TL_pass rfl rfl rfl rfl rfl rfl rfl ?_
                  refine TL_pass rfl rfl rfl rfl rfl rfl rfl ?_
                  refine TL_pass rfl rfl rfl rfl rfl rfl rfl ?_
                  refine TL_pure rfl rfl rfl rfl (op_pick_false rfl rfl) ?_
                  refine TL_keepH [2, 4, 5, 38, 39, 40, 41, 48] [12, 17, 18, 19, 20, 21] rfl rfl rfl rfl (by rw [hF]; rfl) ?_
                  exact TL_cast _ (by rw [hq]; rfl) (hjj () trivial)
            · replace hm := condF hq hm
              refine TL_pass rfl rfl rfl rfl rfl rfl rfl ?_
              refine TL_pass rfl rfl rfl rfl rfl rfl rfl ?_
              refine TL_pass rfl rfl rfl rfl rfl rfl rfl ?_
              refine TL_pass rfl rfl rfl rfl rfl rfl rfl ?_
              refine TL_pure rfl rfl rfl rfl (op_pick_false rfl rfl) ?_
              refine TL_pure rfl rfl rfl rfl (op_move rfl) ?_
              refine TL_pass rfl rfl rfl rfl rfl rfl rfl ?_
              refine TL_pass rfl rfl rfl rfl rfl rfl rfl ?_
              refine TL_pass rfl rfl rfl rfl rfl rfl rfl ?_
              refine TL_pass rfl rfl rfl rfl rfl rfl rfl ?_
              refine TL_pure rfl rfl rfl rfl (op_pick_false rfl rfl) ?_
              refine TL_nil ?_
              refine T_keepH [2, 4, 5, 48] [12, 17, 18, 19, 20, 21] rfl rfl rfl rfl (by rw [hF]; rfl) ?_
              exact hj0 false hm
          · refine TL_split 30 rfl rfl rfl (fun hq => ?_) (fun hq => ?_)
            · refine TL_want rfl rfl ?_
              refine TL_pure rfl rfl rfl rfl (op_fieldAddr fa40_1 rfl rfl) ?_
              refine TL_want rfl rfl ?_
              refine TL_pure rfl rfl rfl rfl (op_load_one ag2 rfl rfl) ?_
              refine TL_want rfl rfl ?_
              refine TL_pure rfl rfl rfl rfl (op_move rfl) ?_
              refine TL_want rfl rfl ?_
              refine TL_pure rfl rfl rfl rfl (op_addW rfl rfl) ?_
              refine TL_want rfl rfl ?_
              refine TL_pure rfl rfl rfl rfl (op_eql rfl rfl) ?_
              refine TL_pure rfl rfl rfl rfl (op_pick_true rfl rfl) ?_
              refine TL_keepH [2, 4, 5, 36] [12, 17, 18, 19, 20, 21] rfl rfl rfl rfl (by rw [hF]; rfl) ?_
              exact TL_cast _ (by rw [hq]; rfl) (hjj () trivial)
            · refine TL_pass rfl rfl rfl rfl rfl rfl rfl ?_
              refine TL_pass rfl rfl rfl rfl rfl rfl rfl ?_
              refine TL_pass rfl rfl rfl rfl rfl rfl rfl ?_
              refine TL_pass rfl rfl rfl rfl rfl rfl rfl ?_
              refine TL_pass rfl rfl rfl rfl rfl rfl rfl ?_
              refine TL_pure rfl rfl rfl rfl (op_pick_false rfl rfl) ?_
              refine TL_keepH [2, 4, 5, 36] [12, 17, 18, 19, 20, 21] rfl rfl rfl rfl (by rw [hF]; rfl) ?_
              exact TL_cast _ (by rw [hq]; rfl) (hjj () trivial)
      · replace hm := condF hq hm
        refine T_keepH [2, 4] [12, 17, 18, 19, 20, 21] rfl rfl rfl rfl (by rw [hF]; rfl) ?_
        refine T_exit ?_
        obtain rfl := someI hm
        have hn := CtlOK_out hc0
        exact hx0 (s0.1, s0.2.1, s0.2.2.1, s0.2.2.2.1) hn
theorem c_laws_eqInt64S (p0 : List Int) (p1 : List Int) (out : Bool) (hm : m_laws_eqInt64S p0 p1 = some out) : ACall Try.prog 26 [.sl 1 (List.map a_i64 p0), .sl 1 (List.map a_i64 p1)] [] (.bool out) [] := by
  refine ACall.intro Try.func26 rfl Try.ntmps26 rfl (fun F hF => ?_)
  unfold m_laws_eqInt64S at hm
  refine T_seq ?_
  refine T_region ?_
  refine TL_pure rfl rfl rfl rfl (op_assign rfl) ?_
  refine TL_nil ?_
  refine T_seq ?_
  refine T_seq ?_
  refine T_region ?_
  refine TL_pure rfl rfl rfl rfl (op_move rfl) ?_
  refine TL_pure rfl rfl rfl rfl (op_lenT Try.underlying26 rfl (List.length_map _)) ?_
  refine TL_fact (fun _ _ _ hr => RelP.slLen (i := 6) rfl hr) (fun hlen7 => ?_)
  rw [List.length_map] at hlen7
  refine TL_pure rfl rfl rfl rfl (op_move rfl) ?_
  refine TL_pure rfl rfl rfl rfl (op_lenT Try.underlying26 rfl (List.length_map _)) ?_
  refine TL_fact (fun _ _ _ hr => RelP.slLen (i := 8) rfl hr) (fun hlen9 => ?_)
  rw [List.length_map] at hlen9
  refine TL_pure rfl rfl rfl rfl (op_neq rfl rfl) ?_
  refine TL_nil ?_
  refine T_cond rfl (fun hq => ?_) (fun hq => ?_)
  · replace hm := condT hq hm
    refine T_seq ?_
    refine T_region ?_
    refine TL_pure rfl rfl rfl rfl (op_assign rfl) ?_
    refine TL_nil ?_
    refine T_keepH [4] [] rfl rfl rfl rfl (by rw [hF]; rfl) ?_
    refine T_ret ?_
    obtain rfl := someI hm
    refine ⟨[_], [], ⟨rfl, trivial⟩, ?_, rfl, rfl, rfl, rfl⟩
    rfl
  · replace hm := condF hq hm
    refine T_skip ?_
    refine T_seq ?_
    refine T_seq ?_
    refine T_region ?_
    refine TL_pure rfl rfl rfl rfl (op_assign rfl) ?_
    refine TL_nil ?_
    refine T_block ?_
    refine T_keepH [0, 1, 5] [] rfl rfl rfl rfl (by rw [hF]; rfl) ?_
    refine T_loop ?_
    obtain ⟨u0, hl0, hm⟩ := bindS hm
    refine TR_iter2 (m_laws_eqInt64S_L0 p0 p1) (fun (s0 : Int) => ⟨[(0, .sl 1 (List.map a_i64 p0)), (1, .sl 1 (List.map a_i64 p1)), (5, .int .i64 s0)], []⟩) (fun u0 => match u0 with | .inl u0 => .exit 0 | .inr u0 => .ret) (fun u0 => match u0 with | .inl u0 => ⟨[], []⟩ | .inr u0 => ⟨[(4, .bool u0)], []⟩) (fun u0 => m_laws_eqInt64S_A0 u0 = some out) hl0 hm (fun u0 hm => ?_) (fun hx0 s0 c0 hm hc0 => ?_)
    · rcases u0 with u0 | u0
      · unfold m_laws_eqInt64S_A0 at hm
        refine T_seq ?_
        refine T_region ?_
        refine TL_pure rfl rfl rfl rfl (op_assign rfl) ?_
        refine TL_nil ?_
        refine T_keepH [4] [] rfl rfl rfl rfl (by rw [hF]; rfl) ?_
        refine T_ret ?_
        obtain rfl := someI hm
        refine ⟨[_], [], ⟨rfl, trivial⟩, ?_, rfl, rfl, rfl, rfl⟩
        rfl
      · unfold m_laws_eqInt64S_A0 at hm
        obtain rfl := someI hm
        refine ⟨[_], [], ⟨rfl, trivial⟩, ?_, rfl, rfl, rfl, rfl⟩
        rfl
    · unfold m_laws_eqInt64S_L0 at hm
      refine T_seq ?_
      refine T_seq ?_
      refine T_region ?_
      refine TL_pure rfl rfl rfl rfl (op_move rfl) ?_
      refine TL_pure rfl rfl rfl rfl (op_move rfl) ?_
      refine TL_pure rfl rfl rfl rfl (op_lenT Try.underlying26 rfl (List.length_map _)) ?_
      refine TL_pure rfl rfl rfl rfl (op_lss rfl rfl) ?_
      refine TL_nil ?_
      refine T_cond rfl (fun hq => ?_) (fun hq => ?_)
      · replace hm := condT hq hm
        refine T_skip ?_
        refine T_seq ?_
        refine T_block ?_
        refine T_seq ?_
        refine T_drawZ [] mix (by kernel_rfl) rfl ?_
        obtain ⟨x19, hx19, hm⟩ := bindS hm
        obtain ⟨x23, hx23, hm⟩ := bindS hm
        refine TZ_pure 0 (by kernel_rfl) rfl rfl rfl rfl rfl (op_move rfl) ?_
        refine TZ_pure 1 (by kernel_rfl) rfl rfl rfl rfl rfl (op_move rfl) ?_
        refine TZ_pure 2 (by kernel_rfl) rfl rfl rfl rfl rfl (op_indexT el26 rfl rfl hx19 rfl) ?_
        refine TZ_pure 3 (by kernel_rfl) rfl rfl rfl rfl rfl (op_load_one ag2 rfl rfl) ?_
        refine TZ_pure 4 (by kernel_rfl) rfl rfl rfl rfl rfl (op_move rfl) ?_
        refine TZ_pure 5 (by kernel_rfl) rfl rfl rfl rfl rfl (op_move rfl) ?_
        refine TZ_pure 6 (by kernel_rfl) rfl rfl rfl rfl rfl (op_indexT el26 rfl rfl hx23 rfl) ?_
        refine TZ_pure 7 (by kernel_rfl) rfl rfl rfl rfl rfl (op_load_one ag2 rfl rfl) ?_
        refine TZ_pure 8 (by kernel_rfl) rfl rfl rfl rfl rfl (op_neq rfl rfl) ?_
        refine TZ_done (by kernel_rfl) ?_
        refine T_cond rfl (fun hq => ?_) (fun hq => ?_)
        · replace hm := condT hq hm
          refine T_seq ?_
          refine T_region ?_
          refine TL_pure rfl rfl rfl rfl (op_assign rfl) ?_
          refine TL_nil ?_
          refine T_keepH [4] [] rfl rfl rfl rfl (by rw [hF]; rfl) ?_
          refine T_ret ?_
          obtain rfl := someI hm
          have hn := CtlOK_out hc0
          exact hx0 (.inr false) hn
        · replace hm := condF hq hm
          refine T_skip ?_
          refine T_region ?_
          refine TL_pure rfl rfl rfl rfl (op_move rfl) ?_
          refine TL_pure rfl rfl rfl rfl (op_addW rfl rfl) ?_
          refine TL_pure rfl rfl rfl rfl (op_assign rfl) ?_
          refine TL_nil ?_
          refine TR_keepH [0, 1, 5] [] rfl rfl rfl rfl (by rw [hF]; rfl) ?_
          obtain rfl := someI hm
          have hn := CtlOK_next hc0
          exact hn _ rfl
      · replace hm := condF hq hm
        refine T_keepH [] [] rfl rfl rfl rfl (by rw [hF]; rfl) ?_
        refine T_exit ?_
        obtain rfl := someI hm
        have hn := CtlOK_out hc0
        exact hx0 (.inl ()) hn
theorem c_laws_eqTerm (p0 : Term) (p1 : Term) (out : Bool) (hm : m_laws_eqTerm p0 p1 = some out) : ACall Try.prog 153 [.agg [.int .i64 p0.Const, .sl 1 (List.map a_i64 p0.Coeffs)], .agg [.int .i64 p1.Const, .sl 1 (List.map a_i64 p1.Coeffs)]] [] (.bool out) [] := by
  refine ACall.intro Try.func153 rfl Try.ntmps153 rfl (fun F hF => ?_)
  unfold m_laws_eqTerm at hm
  refine T_seq ?_
  refine T_region ?_
  refine TL_box 11 rfl rfl rfl rfl rfl rfl rfl ?_
  refine TL_box 12 rfl rfl rfl rfl rfl rfl rfl ?_
  refine TL_pure rfl rfl rfl rfl (op_assign rfl) ?_
  refine TL_nil ?_
  refine T_seq ?_
  refine T_seq ?_
  refine T_region ?_
  refine TL_pure rfl rfl rfl rfl (op_fieldAddr fa184_0 rfl rfl) ?_
  refine TL_pure rfl rfl rfl rfl (op_load_one ag2 rfl rfl) ?_
  refine TL_pure rfl rfl rfl rfl (op_fieldAddr fa184_0 rfl rfl) ?_
  refine TL_pure rfl rfl rfl rfl (op_load_one ag2 rfl rfl) ?_
  refine TL_pure rfl rfl rfl rfl (op_neq rfl rfl) ?_
  refine TL_nil ?_
  refine T_cond rfl (fun hq => ?_) (fun hq => ?_)
  · replace hm := condT hq hm
    refine T_seq ?_
    refine T_region ?_
    refine TL_pure rfl rfl rfl rfl (op_assign rfl) ?_
    refine TL_nil ?_
    refine T_keepH [4] [] rfl rfl rfl rfl (by rw [hF]; rfl) ?_
    refine T_ret ?_
    obtain rfl := someI hm
    refine ⟨[_], [], ⟨rfl, trivial⟩, ?_, rfl, rfl, rfl, rfl⟩
    rfl
  · replace hm := condF hq hm
    refine T_skip ?_
    refine T_seq ?_
    refine T_seq ?_
    refine T_region ?_
    refine TL_pure rfl rfl rfl rfl (op_fieldAddr fa184_1 rfl rfl) ?_
    refine TL_pure rfl rfl rfl rfl (op_load_one ag26 rfl rfl) ?_
    refine TL_pure rfl rfl rfl rfl (op_fieldAddr fa184_1 rfl rfl) ?_
    refine TL_pure rfl rfl rfl rfl (op_load_one ag26 rfl rfl) ?_
    obtain ⟨r14, hr14, hm⟩ := bindS hm
    refine TL_callF (c_laws_eqInt64S p0.Coeffs p1.Coeffs r14 hr14) Try.call26 rfl rfl rfl rfl rfl ?_
    refine TL_pure rfl rfl rfl rfl (op_not rfl) ?_
    refine TL_nil ?_
    refine T_cond rfl (fun hq => ?_) (fun hq => ?_)
    · replace hm := condT hq hm
      refine T_seq ?_
      refine T_region ?_
      refine TL_pure rfl rfl rfl rfl (op_assign rfl) ?_
      refine TL_nil ?_
      refine T_keepH [4] [] rfl rfl rfl rfl (by rw [hF]; rfl) ?_
      refine T_ret ?_
      obtain rfl := someI hm
      refine ⟨[_], [], ⟨rfl, trivial⟩, ?_, rfl, rfl, rfl, rfl⟩
      rfl
    · replace hm := condF hq hm
      refine T_skip ?_
      refine T_seq ?_
      refine T_region ?_
      refine TL_pure rfl rfl rfl rfl (op_assign rfl) ?_
      refine TL_nil ?_
      refine T_keepH [4] [] rfl rfl rfl rfl (by rw [hF]; rfl) ?_
      refine T_ret ?_
      obtain rfl := someI hm
      refine ⟨[_], [], ⟨rfl, trivial⟩, ?_, rfl, rfl, rfl, rfl⟩
      rfl
theorem c_laws_eqTermS (p0 : List Term) (p1 : List Term) (out : Bool) (hm : m_laws_eqTermS p0 p1 = some out) : ACall Try.prog 94 [.sl 2 (List.map a_Term p0), .sl 2 (List.map a_Term p1)] [] (.bool out) [] := by
  refine ACall.intro Try.func94 rfl Try.ntmps94 rfl (fun F hF => ?_)
  unfold m_laws_eqTermS at hm
  refine T_seq ?_
  refine T_region ?_
  refine TL_pure rfl rfl rfl rfl (op_assign rfl) ?_
  refine TL_nil ?_
  refine T_seq ?_
  refine T_seq ?_
  refine T_region ?_
  refine TL_pure rfl rfl rfl rfl (op_move rfl) ?_
  refine TL_pure rfl rfl rfl rfl (op_lenT Try.underlying66 rfl (List.length_map _)) ?_
  refine TL_fact (fun _ _ _ hr => RelP.slLen (i := 6) rfl hr) (fun hlen7 => ?_)
  rw [List.length_map] at hlen7
  refine TL_pure rfl rfl rfl rfl (op_move rfl) ?_
  refine TL_pure rfl rfl rfl rfl (op_lenT Try.underlying66 rfl (List.length_map _)) ?_
  refine TL_fact (fun _ _ _ hr => RelP.slLen (i := 8) rfl hr) (fun hlen9 => ?_)
  rw [List.length_map] at hlen9
  refine TL_pure rfl rfl rfl rfl (op_neq rfl rfl) ?_
  refine TL_nil ?_
  refine T_cond rfl (fun hq => ?_) (fun hq => ?_)
  · replace hm := condT hq hm
    refine T_seq ?_
    refine T_region ?_
    refine TL_pure rfl rfl rfl rfl (op_assign rfl) ?_
    refine TL_nil ?_
    refine T_keepH [4] [] rfl rfl rfl rfl (by rw [hF]; rfl) ?_
    refine T_ret ?_
    obtain rfl := someI hm
    refine ⟨[_], [], ⟨rfl, trivial⟩, ?_, rfl, rfl, rfl, rfl⟩
    rfl
  · replace hm := condF hq hm
    refine T_skip ?_
    refine T_seq ?_
    refine T_seq ?_
    refine T_region ?_
    refine TL_pure rfl rfl rfl rfl (op_assign rfl) ?_
    refine TL_nil ?_
    refine T_block ?_
    refine T_keepH [0, 1, 5] [] rfl rfl rfl rfl (by rw [hF]; rfl) ?_
    refine T_loop ?_
    obtain ⟨u0, hl0, hm⟩ := bindS hm
    refine TR_iter2 (m_laws_eqTermS_L0 p0 p1) (fun (s0 : Int) => ⟨[(0, .sl 2 (List.map a_Term p0)), (1, .sl 2 (List.map a_Term p1)), (5, .int .i64 s0)], []⟩) (fun u0 => match u0 with | .inl u0 => .exit 0 | .inr u0 => .ret) (fun u0 => match u0 with | .inl u0 => ⟨[], []⟩ | .inr u0 => ⟨[(4, .bool u0)], []⟩) (fun u0 => m_laws_eqTermS_A0 u0 = some out) hl0 hm (fun u0 hm => ?_) (fun hx0 s0 c0 hm hc0 => ?_)
    · rcases u0 with u0 | u0
      · unfold m_laws_eqTermS_A0 at hm
        refine T_seq ?_
        refine T_region ?_
        refine TL_pure rfl rfl rfl rfl (op_assign rfl) ?_
        refine TL_nil ?_
        refine T_keepH [4] [] rfl rfl rfl rfl (by rw [hF]; rfl) ?_
        refine T_ret ?_
        obtain rfl := someI hm
        refine ⟨[_], [], ⟨rfl, trivial⟩, ?_, rfl, rfl, rfl, rfl⟩
        rfl
      · unfold m_laws_eqTermS_A0 at hm
        obtain rfl := someI hm
        refine ⟨[_], [], ⟨rfl, trivial⟩, ?_, rfl, rfl, rfl, rfl⟩
        rfl
    · unfold m_laws_eqTermS_L0 at hm
      refine T_seq ?_
      refine T_seq ?_
      refine T_region ?_
      refine TL_pure rfl rfl rfl rfl (op_move rfl) ?_
      refine TL_pure rfl rfl rfl rfl (op_move rfl) ?_
      refine TL_pure rfl rfl rfl rfl (op_lenT Try.underlying66 rfl (List.length_map _)) ?_
      refine TL_pure rfl rfl rfl rfl (op_lss rfl rfl) ?_
      refine TL_nil ?_
      refine T_cond rfl (fun hq => ?_) (fun hq => ?_)
      · replace hm := condT hq hm
        refine T_skip ?_
        refine T_seq ?_
        refine T_block ?_
        refine T_seq ?_
        refine T_drawZ [] mix (by kernel_rfl) rfl ?_
        obtain ⟨x19, hx19, hm⟩ := bindS hm
        obtain ⟨x23, hx23, hm⟩ := bindS hm
        obtain ⟨r25, hr25, hm⟩ := bindS hm
        refine TZ_pure 0 (by kernel_rfl) rfl rfl rfl rfl rfl (op_move rfl) ?_
        refine TZ_pure 1 (by kernel_rfl) rfl rfl rfl rfl rfl (op_move rfl) ?_
        refine TZ_pure 2 (by kernel_rfl) rfl rfl rfl rfl rfl (op_indexT el66 rfl rfl hx19 rfl) ?_
        refine TZ_pure 3 (by kernel_rfl) rfl rfl rfl rfl rfl (op_load_agg ag184 sz184 rfl rfl rfl) ?_
        refine TZ_pure 4 (by kernel_rfl) rfl rfl rfl rfl rfl (op_move rfl) ?_
        refine TZ_pure 5 (by kernel_rfl) rfl rfl rfl rfl rfl (op_move rfl) ?_
        refine TZ_pure 6 (by kernel_rfl) rfl rfl rfl rfl rfl (op_indexT el66 rfl rfl hx23 rfl) ?_
        refine TZ_pure 7 (by kernel_rfl) rfl rfl rfl rfl rfl (op_load_agg ag184 sz184 rfl rfl rfl) ?_
        refine TZ_one 8 (by kernel_rfl) rfl ?_
        refine TL_callF (c_laws_eqTerm x19 x23 r25 hr25) Try.call153 rfl rfl rfl rfl rfl ?_
        refine TL_nil ?_
        refine TZ_pure 9 (by kernel_rfl) rfl rfl rfl rfl rfl (op_not rfl) ?_
        refine TZ_done (by kernel_rfl) ?_
        refine T_cond rfl (fun hq => ?_) (fun hq => ?_)
        · replace hm := condT hq hm
          refine T_seq ?_
          refine T_region ?_
          refine TL_pure rfl rfl rfl rfl (op_assign rfl) ?_
          refine TL_nil ?_
          refine T_keepH [4] [] rfl rfl rfl rfl (by rw [hF]; rfl) ?_
          refine T_ret ?_
          obtain rfl := someI hm
          have hn := CtlOK_out hc0
          exact hx0 (.inr false) hn
        · replace hm := condF hq hm
          refine T_skip ?_
          refine T_region ?_
          refine TL_pure rfl rfl rfl rfl (op_move rfl) ?_
          refine TL_pure rfl rfl rfl rfl (op_addW rfl rfl) ?_
          refine TL_pure rfl rfl rfl rfl (op_assign rfl) ?_
          refine TL_nil ?_
          refine TR_keepH [0, 1, 5] [] rfl rfl rfl rfl (by rw [hF]; rfl) ?_
          obtain rfl := someI hm
          have hn := CtlOK_next hc0
          exact hn _ rfl
      · replace hm := condF hq hm
        refine T_keepH [] [] rfl rfl rfl rfl (by rw [hF]; rfl) ?_
        refine T_exit ?_
        obtain rfl := someI hm
        have hn := CtlOK_out hc0
        exact hx0 (.inl ()) hn
theorem c_laws_eqInstr (p0 : Instr) (p1 : Instr) (out : Bool) (hm : m_laws_eqInstr p0 p1 = some out) : ACall Try.prog 80 [.agg [.int .i64 p0.Op, .int .i64 p0.Arg], .agg [.int .i64 p1.Op, .int .i64 p1.Arg]] [] (.bool out) [] := by
  refine ACall.intro Try.func80 rfl Try.ntmps80 rfl (fun F hF => ?_)
  unfold m_laws_eqInstr at hm
  refine T_seq ?_
  refine T_region ?_
  refine TL_box 11 rfl rfl rfl rfl rfl rfl rfl ?_
  refine TL_box 12 rfl rfl rfl rfl rfl rfl rfl ?_
  refine TL_pure rfl rfl rfl rfl (op_assign rfl) ?_
  refine TL_nil ?_
  refine T_seq ?_
  refine T_seq ?_
  refine T_region ?_
  refine TL_pure rfl rfl rfl rfl (op_fieldAddr fa40_0 rfl rfl) ?_
  refine TL_pure rfl rfl rfl rfl (op_load_one ag2 rfl rfl) ?_
  refine TL_pure rfl rfl rfl rfl (op_fieldAddr fa40_0 rfl rfl) ?_
  refine TL_pure rfl rfl rfl rfl (op_load_one ag2 rfl rfl) ?_
  refine TL_pure rfl rfl rfl rfl (op_neq rfl rfl) ?_
  refine TL_nil ?_
  refine T_cond rfl (fun hq => ?_) (fun hq => ?_)
  · replace hm := condT hq hm
    refine T_seq ?_
    refine T_region ?_
    refine TL_pure rfl rfl rfl rfl (op_assign rfl) ?_
    refine TL_nil ?_
    refine T_keepH [4] [] rfl rfl rfl rfl (by rw [hF]; rfl) ?_
    refine T_ret ?_
    obtain rfl := someI hm
    refine ⟨[_], [], ⟨rfl, trivial⟩, ?_, rfl, rfl, rfl, rfl⟩
    rfl
  · replace hm := condF hq hm
    refine T_skip ?_
    refine T_seq ?_
    refine T_seq ?_
    refine T_region ?_
    refine TL_pure rfl rfl rfl rfl (op_fieldAddr fa40_1 rfl rfl) ?_
    refine TL_pure rfl rfl rfl rfl (op_load_one ag2 rfl rfl) ?_
    refine TL_pure rfl rfl rfl rfl (op_fieldAddr fa40_1 rfl rfl) ?_
    refine TL_pure rfl rfl rfl rfl (op_load_one ag2 rfl rfl) ?_
    refine TL_pure rfl rfl rfl rfl (op_neq rfl rfl) ?_
    refine TL_nil ?_
    refine T_cond rfl (fun hq => ?_) (fun hq => ?_)
    · replace hm := condT hq hm
      refine T_seq ?_
      refine T_region ?_
      refine TL_pure rfl rfl rfl rfl (op_assign rfl) ?_
      refine TL_nil ?_
      refine T_keepH [4] [] rfl rfl rfl rfl (by rw [hF]; rfl) ?_
      refine T_ret ?_
      obtain rfl := someI hm
      refine ⟨[_], [], ⟨rfl, trivial⟩, ?_, rfl, rfl, rfl, rfl⟩
      rfl
    · replace hm := condF hq hm
      refine T_skip ?_
      refine T_seq ?_
      refine T_region ?_
      refine TL_pure rfl rfl rfl rfl (op_assign rfl) ?_
      refine TL_nil ?_
      refine T_keepH [4] [] rfl rfl rfl rfl (by rw [hF]; rfl) ?_
      refine T_ret ?_
      obtain rfl := someI hm
      refine ⟨[_], [], ⟨rfl, trivial⟩, ?_, rfl, rfl, rfl, rfl⟩
      rfl
theorem c_laws_eqInstrS (p0 : List Instr) (p1 : List Instr) (out : Bool) (hm : m_laws_eqInstrS p0 p1 = some out) : ACall Try.prog 27 [.sl 2 (List.map a_Instr p0), .sl 2 (List.map a_Instr p1)] [] (.bool out) [] := by
  refine ACall.intro Try.func27 rfl Try.ntmps27 rfl (fun F hF => ?_)
  unfold m_laws_eqInstrS at hm
  refine T_seq ?_
  refine T_region ?_
  refine TL_pure rfl rfl rfl rfl (op_assign rfl) ?_
  refine TL_nil ?_
  refine T_seq ?_
  refine T_seq ?_
  refine T_region ?_
  refine TL_pure rfl rfl rfl rfl (op_move rfl) ?_
  refine TL_pure rfl rfl rfl rfl (op_lenT Try.underlying24 rfl (List.length_map _)) ?_
  refine TL_fact (fun _ _ _ hr => RelP.slLen (i := 6) rfl hr) (fun hlen7 => ?_)
  rw [List.length_map] at hlen7
  refine TL_pure rfl rfl rfl rfl (op_move rfl) ?_
  refine TL_pure rfl rfl rfl rfl (op_lenT Try.underlying24 rfl (List.length_map _)) ?_
  refine TL_fact (fun _ _ _ hr => RelP.slLen (i := 8) rfl hr) (fun hlen9 => ?_)
  rw [List.length_map] at hlen9
  refine TL_pure rfl rfl rfl rfl (op_neq rfl rfl) ?_
  refine TL_nil ?_
  refine T_cond rfl (fun hq => ?_) (fun hq => ?_)
  · replace hm := condT hq hm
    refine T_seq ?_
    refine T_region ?_
    refine TL_pure rfl rfl rfl rfl (op_assign rfl) ?_
    refine TL_nil ?_
    refine T_keepH [4] [] rfl rfl rfl rfl (by rw [hF]; rfl) ?_
    refine T_ret ?_
    obtain rfl := someI hm
    refine ⟨[_], [], ⟨rfl, trivial⟩, ?_, rfl, rfl, rfl, rfl⟩
    rfl
  · replace hm := condF hq hm
    refine T_skip ?_
    refine T_seq ?_
    refine T_seq ?_
    refine T_region ?_
    refine TL_pure rfl rfl rfl rfl (op_assign rfl) ?_
    refine TL_nil ?_
    refine T_block ?_
    refine T_keepH [0, 1, 5] [] rfl rfl rfl rfl (by rw [hF]; rfl) ?_
    refine T_loop ?_
    obtain ⟨u0, hl0, hm⟩ := bindS hm
    refine TR_iter2 (m_laws_eqInstrS_L0 p0 p1) (fun (s0 : Int) => ⟨[(0, .sl 2 (List.map a_Instr p0)), (1, .sl 2 (List.map a_Instr p1)), (5, .int .i64 s0)], []⟩) (fun u0 => match u0 with | .inl u0 => .exit 0 | .inr u0 => .ret) (fun u0 => match u0 with | .inl u0 => ⟨[], []⟩ | .inr u0 => ⟨[(4, .bool u0)], []⟩) (fun u0 => m_laws_eqInstrS_A0 u0 = some out) hl0 hm (fun u0 hm => ?_) (fun hx0 s0 c0 hm hc0 => ?_)
    · rcases u0 with u0 | u0
      · unfold m_laws_eqInstrS_A0 at hm
        refine T_seq ?_
        refine T_region ?_
        refine TL_pure rfl rfl rfl rfl (op_assign rfl) ?_
        refine TL_nil ?_
        refine T_keepH [4] [] rfl rfl rfl rfl (by rw [hF]; rfl) ?_
        refine T_ret ?_
        obtain rfl := someI hm
        refine ⟨[_], [], ⟨rfl, trivial⟩, ?_, rfl, rfl, rfl, rfl⟩
        rfl
      · unfold m_laws_eqInstrS_A0 at hm
        obtain rfl := someI hm
        refine ⟨[_], [], ⟨rfl, trivial⟩, ?_, rfl, rfl, rfl, rfl⟩
        rfl
    · unfold m_laws_eqInstrS_L0 at hm
      refine T_seq ?_
      refine T_seq ?_
      refine T_region ?_
      refine TL_pure rfl rfl rfl rfl (op_move rfl) ?_
      refine TL_pure rfl rfl rfl rfl (op_move rfl) ?_
      refine TL_pure rfl rfl rfl rfl (op_lenT Try.underlying24 rfl (List.length_map _)) ?_
      refine TL_pure rfl rfl rfl rfl (op_lss rfl rfl) ?_
      refine TL_nil ?_
      refine T_cond rfl (fun hq => ?_) (fun hq => ?_)
      · replace hm := condT hq hm
        refine T_skip ?_
        refine T_seq ?_
        refine T_block ?_
        refine T_seq ?_
        refine T_drawZ [] mix (by kernel_rfl) rfl ?_
        obtain ⟨x19, hx19, hm⟩ := bindS hm
        obtain ⟨x23, hx23, hm⟩ := bindS hm
        obtain ⟨r25, hr25, hm⟩ := bindS hm
        refine TZ_pure 0 (by kernel_rfl) rfl rfl rfl rfl rfl (op_move rfl) ?_
        refine TZ_pure 1 (by kernel_rfl) rfl rfl rfl rfl rfl (op_move rfl) ?_
        refine TZ_pure 2 (by kernel_rfl) rfl rfl rfl rfl rfl (op_indexT el24 rfl rfl hx19 rfl) ?_
        refine TZ_pure 3 (by kernel_rfl) rfl rfl rfl rfl rfl (op_load_agg ag40 sz40 rfl rfl rfl) ?_
        refine TZ_pure 4 (by kernel_rfl) rfl rfl rfl rfl rfl (op_move rfl) ?_
        refine TZ_pure 5 (by kernel_rfl) rfl rfl rfl rfl rfl (op_move rfl) ?_
        refine TZ_pure 6 (by kernel_rfl) rfl rfl rfl rfl rfl (op_indexT el24 rfl rfl hx23 rfl) ?_
        refine TZ_pure 7 (by kernel_rfl) rfl rfl rfl rfl rfl (op_load_agg ag40 sz40 rfl rfl rfl) ?_
        refine TZ_one 8 (by kernel_rfl) rfl ?_
        refine TL_callF (c_laws_eqInstr x19 x23 r25 hr25) Try.call80 rfl rfl rfl rfl rfl ?_
        refine TL_nil ?_
        refine TZ_pure 9 (by kernel_rfl) rfl rfl rfl rfl rfl (op_not rfl) ?_
        refine TZ_done (by kernel_rfl) ?_
        refine T_cond rfl (fun hq => ?_) (fun hq => ?_)
        · replace hm := condT hq hm
          refine T_seq ?_
          refine T_region ?_
          refine TL_pure rfl rfl rfl rfl (op_assign rfl) ?_
          refine TL_nil ?_
          refine T_keepH [4] [] rfl rfl rfl rfl (by rw [hF]; rfl) ?_
          refine T_ret ?_
          obtain rfl := someI hm
          have hn := CtlOK_out hc0
          exact hx0 (.inr false) hn
        · replace hm := condF hq hm
          refine T_skip ?_
          refine T_region ?_
          refine TL_pure rfl rfl rfl rfl (op_move rfl) ?_
          refine TL_pure rfl rfl rfl rfl (op_addW rfl rfl) ?_
          refine TL_pure rfl rfl rfl rfl (op_assign rfl) ?_
          refine TL_nil ?_
          refine TR_keepH [0, 1, 5] [] rfl rfl rfl rfl (by rw [hF]; rfl) ?_
          obtain rfl := someI hm
          have hn := CtlOK_next hc0
          exact hn _ rfl
      · replace hm := condF hq hm
        refine T_keepH [] [] rfl rfl rfl rfl (by rw [hF]; rfl) ?_
        refine T_exit ?_
        obtain rfl := someI hm
        have hn := CtlOK_out hc0
        exact hx0 (.inl ()) hn
theorem c_laws_eqPoint (p0 : Point) (p1 : Point) (out : Bool) (hm : m_laws_eqPoint p0 p1 = some out) : ACall Try.prog 54 [.agg [.int .i64 p0.At, .sl 2 (List.map a_Term p0.Facts)], .agg [.int .i64 p1.At, .sl 2 (List.map a_Term p1.Facts)]] [] (.bool out) [] := by
  refine ACall.intro Try.func54 rfl Try.ntmps54 rfl (fun F hF => ?_)
  unfold m_laws_eqPoint at hm
  refine T_seq ?_
  refine T_region ?_
  refine TL_box 11 rfl rfl rfl rfl rfl rfl rfl ?_
  refine TL_box 12 rfl rfl rfl rfl rfl rfl rfl ?_
  refine TL_pure rfl rfl rfl rfl (op_assign rfl) ?_
  refine TL_nil ?_
  refine T_seq ?_
  refine T_seq ?_
  refine T_region ?_
  refine TL_pure rfl rfl rfl rfl (op_fieldAddr fa81_0 rfl rfl) ?_
  refine TL_pure rfl rfl rfl rfl (op_load_one ag2 rfl rfl) ?_
  refine TL_pure rfl rfl rfl rfl (op_fieldAddr fa81_0 rfl rfl) ?_
  refine TL_pure rfl rfl rfl rfl (op_load_one ag2 rfl rfl) ?_
  refine TL_pure rfl rfl rfl rfl (op_neq rfl rfl) ?_
  refine TL_nil ?_
  refine T_cond rfl (fun hq => ?_) (fun hq => ?_)
  · replace hm := condT hq hm
    refine T_seq ?_
    refine T_region ?_
    refine TL_pure rfl rfl rfl rfl (op_assign rfl) ?_
    refine TL_nil ?_
    refine T_keepH [4] [] rfl rfl rfl rfl (by rw [hF]; rfl) ?_
    refine T_ret ?_
    obtain rfl := someI hm
    refine ⟨[_], [], ⟨rfl, trivial⟩, ?_, rfl, rfl, rfl, rfl⟩
    rfl
  · replace hm := condF hq hm
    refine T_skip ?_
    refine T_seq ?_
    refine T_seq ?_
    refine T_region ?_
    refine TL_pure rfl rfl rfl rfl (op_fieldAddr fa81_1 rfl rfl) ?_
    refine TL_pure rfl rfl rfl rfl (op_load_one ag66 rfl rfl) ?_
    refine TL_pure rfl rfl rfl rfl (op_fieldAddr fa81_1 rfl rfl) ?_
    refine TL_pure rfl rfl rfl rfl (op_load_one ag66 rfl rfl) ?_
    obtain ⟨r14, hr14, hm⟩ := bindS hm
    refine TL_callF (c_laws_eqTermS p0.Facts p1.Facts r14 hr14) Try.call94 rfl rfl rfl rfl rfl ?_
    refine TL_pure rfl rfl rfl rfl (op_not rfl) ?_
    refine TL_nil ?_
    refine T_cond rfl (fun hq => ?_) (fun hq => ?_)
    · replace hm := condT hq hm
      refine T_seq ?_
      refine T_region ?_
      refine TL_pure rfl rfl rfl rfl (op_assign rfl) ?_
      refine TL_nil ?_
      refine T_keepH [4] [] rfl rfl rfl rfl (by rw [hF]; rfl) ?_
      refine T_ret ?_
      obtain rfl := someI hm
      refine ⟨[_], [], ⟨rfl, trivial⟩, ?_, rfl, rfl, rfl, rfl⟩
      rfl
    · replace hm := condF hq hm
      refine T_skip ?_
      refine T_seq ?_
      refine T_region ?_
      refine TL_pure rfl rfl rfl rfl (op_assign rfl) ?_
      refine TL_nil ?_
      refine T_keepH [4] [] rfl rfl rfl rfl (by rw [hF]; rfl) ?_
      refine T_ret ?_
      obtain rfl := someI hm
      refine ⟨[_], [], ⟨rfl, trivial⟩, ?_, rfl, rfl, rfl, rfl⟩
      rfl
theorem c_laws_eqPointS (p0 : List Point) (p1 : List Point) (out : Bool) (hm : m_laws_eqPointS p0 p1 = some out) : ACall Try.prog 95 [.sl 2 (List.map a_Point p0), .sl 2 (List.map a_Point p1)] [] (.bool out) [] := by
  refine ACall.intro Try.func95 rfl Try.ntmps95 rfl (fun F hF => ?_)
  unfold m_laws_eqPointS at hm
  refine T_seq ?_
  refine T_region ?_
  refine TL_pure rfl rfl rfl rfl (op_assign rfl) ?_
  refine TL_nil ?_
  refine T_seq ?_
  refine T_seq ?_
  refine T_region ?_
  refine TL_pure rfl rfl rfl rfl (op_move rfl) ?_
  refine TL_pure rfl rfl rfl rfl (op_lenT Try.underlying67 rfl (List.length_map _)) ?_
  refine TL_fact (fun _ _ _ hr => RelP.slLen (i := 6) rfl hr) (fun hlen7 => ?_)
  rw [List.length_map] at hlen7
  refine TL_pure rfl rfl rfl rfl (op_move rfl) ?_
  refine TL_pure rfl rfl rfl rfl (op_lenT Try.underlying67 rfl (List.length_map _)) ?_
  refine TL_fact (fun _ _ _ hr => RelP.slLen (i := 8) rfl hr) (fun hlen9 => ?_)
  rw [List.length_map] at hlen9
  refine TL_pure rfl rfl rfl rfl (op_neq rfl rfl) ?_
  refine TL_nil ?_
  refine T_cond rfl (fun hq => ?_) (fun hq => ?_)
  · replace hm := condT hq hm
    refine T_seq ?_
    refine T_region ?_
    refine TL_pure rfl rfl rfl rfl (op_assign rfl) ?_
    refine TL_nil ?_
    refine T_keepH [4] [] rfl rfl rfl rfl (by rw [hF]; rfl) ?_
    refine T_ret ?_
    obtain rfl := someI hm
    refine ⟨[_], [], ⟨rfl, trivial⟩, ?_, rfl, rfl, rfl, rfl⟩
    rfl
  · replace hm := condF hq hm
    refine T_skip ?_
    refine T_seq ?_
    refine T_seq ?_
    refine T_region ?_
    refine TL_pure rfl rfl rfl rfl (op_assign rfl) ?_
    refine TL_nil ?_
    refine T_block ?_
    refine T_keepH [0, 1, 5] [] rfl rfl rfl rfl (by rw [hF]; rfl) ?_
    refine T_loop ?_
    obtain ⟨u0, hl0, hm⟩ := bindS hm
    refine TR_iter2 (m_laws_eqPointS_L0 p0 p1) (fun (s0 : Int) => ⟨[(0, .sl 2 (List.map a_Point p0)), (1, .sl 2 (List.map a_Point p1)), (5, .int .i64 s0)], []⟩) (fun u0 => match u0 with | .inl u0 => .exit 0 | .inr u0 => .ret) (fun u0 => match u0 with | .inl u0 => ⟨[], []⟩ | .inr u0 => ⟨[(4, .bool u0)], []⟩) (fun u0 => m_laws_eqPointS_A0 u0 = some out) hl0 hm (fun u0 hm => ?_) (fun hx0 s0 c0 hm hc0 => ?_)
    · rcases u0 with u0 | u0
      · unfold m_laws_eqPointS_A0 at hm
        refine T_seq ?_
        refine T_region ?_
        refine TL_pure rfl rfl rfl rfl (op_assign rfl) ?_
        refine TL_nil ?_
        refine T_keepH [4] [] rfl rfl rfl rfl (by rw [hF]; rfl) ?_
        refine T_ret ?_
        obtain rfl := someI hm
        refine ⟨[_], [], ⟨rfl, trivial⟩, ?_, rfl, rfl, rfl, rfl⟩
        rfl
      · unfold m_laws_eqPointS_A0 at hm
        obtain rfl := someI hm
        refine ⟨[_], [], ⟨rfl, trivial⟩, ?_, rfl, rfl, rfl, rfl⟩
        rfl
    · unfold m_laws_eqPointS_L0 at hm
      refine T_seq ?_
      refine T_seq ?_
      refine T_region ?_
      refine TL_pure rfl rfl rfl rfl (op_move rfl) ?_
      refine TL_pure rfl rfl rfl rfl (op_move rfl) ?_
      refine TL_pure rfl rfl rfl rfl (op_lenT Try.underlying67 rfl (List.length_map _)) ?_
      refine TL_pure rfl rfl rfl rfl (op_lss rfl rfl) ?_
      refine TL_nil ?_
      refine T_cond rfl (fun hq => ?_) (fun hq => ?_)
      · replace hm := condT hq hm
        refine T_skip ?_
        refine T_seq ?_
        refine T_block ?_
        refine T_seq ?_
        refine T_drawZ [] mix (by kernel_rfl) rfl ?_
        obtain ⟨x19, hx19, hm⟩ := bindS hm
        obtain ⟨x23, hx23, hm⟩ := bindS hm
        obtain ⟨r25, hr25, hm⟩ := bindS hm
        refine TZ_pure 0 (by kernel_rfl) rfl rfl rfl rfl rfl (op_move rfl) ?_
        refine TZ_pure 1 (by kernel_rfl) rfl rfl rfl rfl rfl (op_move rfl) ?_
        refine TZ_pure 2 (by kernel_rfl) rfl rfl rfl rfl rfl (op_indexT el67 rfl rfl hx19 rfl) ?_
        refine TZ_pure 3 (by kernel_rfl) rfl rfl rfl rfl rfl (op_load_agg ag81 sz81 rfl rfl rfl) ?_
        refine TZ_pure 4 (by kernel_rfl) rfl rfl rfl rfl rfl (op_move rfl) ?_
        refine TZ_pure 5 (by kernel_rfl) rfl rfl rfl rfl rfl (op_move rfl) ?_
        refine TZ_pure 6 (by kernel_rfl) rfl rfl rfl rfl rfl (op_indexT el67 rfl rfl hx23 rfl) ?_
        refine TZ_pure 7 (by kernel_rfl) rfl rfl rfl rfl rfl (op_load_agg ag81 sz81 rfl rfl rfl) ?_
        refine TZ_one 8 (by kernel_rfl) rfl ?_
        refine TL_callF (c_laws_eqPoint x19 x23 r25 hr25) Try.call54 rfl rfl rfl rfl rfl ?_
        refine TL_nil ?_
        refine TZ_pure 9 (by kernel_rfl) rfl rfl rfl rfl rfl (op_not rfl) ?_
        refine TZ_done (by kernel_rfl) ?_
        refine T_cond rfl (fun hq => ?_) (fun hq => ?_)
        · replace hm := condT hq hm
          refine T_seq ?_
          refine T_region ?_
          refine TL_pure rfl rfl rfl rfl (op_assign rfl) ?_
          refine TL_nil ?_
          refine T_keepH [4] [] rfl rfl rfl rfl (by rw [hF]; rfl) ?_
          refine T_ret ?_
          obtain rfl := someI hm
          have hn := CtlOK_out hc0
          exact hx0 (.inr false) hn
        · replace hm := condF hq hm
          refine T_skip ?_
          refine T_region ?_
          refine TL_pure rfl rfl rfl rfl (op_move rfl) ?_
          refine TL_pure rfl rfl rfl rfl (op_addW rfl rfl) ?_
          refine TL_pure rfl rfl rfl rfl (op_assign rfl) ?_
          refine TL_nil ?_
          refine TR_keepH [0, 1, 5] [] rfl rfl rfl rfl (by rw [hF]; rfl) ?_
          obtain rfl := someI hm
          have hn := CtlOK_next hc0
          exact hn _ rfl
      · replace hm := condF hq hm
        refine T_keepH [] [] rfl rfl rfl rfl (by rw [hF]; rfl) ?_
        refine T_exit ?_
        obtain rfl := someI hm
        have hn := CtlOK_out hc0
        exact hx0 (.inl ()) hn
theorem c_laws_eqAnnotated (p0 : Annotated) (p1 : Annotated) (out : Bool) (hm : m_laws_eqAnnotated p0 p1 = some out) : ACall Try.prog 45 [.agg [.sl 2 (List.map a_Term p0.Pre), .sl 2 (List.map a_Term p0.Post), .sl 2 (List.map a_Instr p0.Code), .sl 2 (List.map a_Point p0.Points)], .agg [.sl 2 (List.map a_Term p1.Pre), .sl 2 (List.map a_Term p1.Post), .sl 2 (List.map a_Instr p1.Code), .sl 2 (List.map a_Point p1.Points)]] [] (.bool out) [] := by
  refine ACall.intro Try.func45 rfl Try.ntmps45 rfl (fun F hF => ?_)
  unfold m_laws_eqAnnotated at hm
  refine T_seq ?_
  refine T_region ?_
  refine TL_box 11 rfl rfl rfl rfl rfl rfl rfl ?_
  refine TL_box 12 rfl rfl rfl rfl rfl rfl rfl ?_
  refine TL_pure rfl rfl rfl rfl (op_assign rfl) ?_
  refine TL_nil ?_
  refine T_seq ?_
  refine T_seq ?_
  refine T_region ?_
  refine TL_pure rfl rfl rfl rfl (op_fieldAddr fa69_0 rfl rfl) ?_
  refine TL_pure rfl rfl rfl rfl (op_load_one ag66 rfl rfl) ?_
  refine TL_pure rfl rfl rfl rfl (op_fieldAddr fa69_0 rfl rfl) ?_
  refine TL_pure rfl rfl rfl rfl (op_load_one ag66 rfl rfl) ?_
  obtain ⟨r9, hr9, hm⟩ := bindS hm
  refine TL_callF (c_laws_eqTermS p0.Pre p1.Pre r9 hr9) Try.call94 rfl rfl rfl rfl rfl ?_
  refine TL_pure rfl rfl rfl rfl (op_not rfl) ?_
  refine TL_nil ?_
  refine T_cond rfl (fun hq => ?_) (fun hq => ?_)
  · replace hm := condT hq hm
    refine T_seq ?_
    refine T_region ?_
    refine TL_pure rfl rfl rfl rfl (op_assign rfl) ?_
    refine TL_nil ?_
    refine T_keepH [4] [] rfl rfl rfl rfl (by rw [hF]; rfl) ?_
    refine T_ret ?_
    obtain rfl := someI hm
    refine ⟨[_], [], ⟨rfl, trivial⟩, ?_, rfl, rfl, rfl, rfl⟩
    rfl
  · replace hm := condF hq hm
    refine T_skip ?_
    refine T_seq ?_
    refine T_seq ?_
    refine T_region ?_
    refine TL_pure rfl rfl rfl rfl (op_fieldAddr fa69_1 rfl rfl) ?_
    refine TL_pure rfl rfl rfl rfl (op_load_one ag66 rfl rfl) ?_
    refine TL_pure rfl rfl rfl rfl (op_fieldAddr fa69_1 rfl rfl) ?_
    refine TL_pure rfl rfl rfl rfl (op_load_one ag66 rfl rfl) ?_
    obtain ⟨r15, hr15, hm⟩ := bindS hm
    refine TL_callF (c_laws_eqTermS p0.Post p1.Post r15 hr15) Try.call94 rfl rfl rfl rfl rfl ?_
    refine TL_pure rfl rfl rfl rfl (op_not rfl) ?_
    refine TL_nil ?_
    refine T_cond rfl (fun hq => ?_) (fun hq => ?_)
    · replace hm := condT hq hm
      refine T_seq ?_
      refine T_region ?_
      refine TL_pure rfl rfl rfl rfl (op_assign rfl) ?_
      refine TL_nil ?_
      refine T_keepH [4] [] rfl rfl rfl rfl (by rw [hF]; rfl) ?_
      refine T_ret ?_
      obtain rfl := someI hm
      refine ⟨[_], [], ⟨rfl, trivial⟩, ?_, rfl, rfl, rfl, rfl⟩
      rfl
    · replace hm := condF hq hm
      refine T_skip ?_
      refine T_seq ?_
      refine T_seq ?_
      refine T_region ?_
      refine TL_pure rfl rfl rfl rfl (op_fieldAddr fa69_2 rfl rfl) ?_
      refine TL_pure rfl rfl rfl rfl (op_load_one ag24 rfl rfl) ?_
      refine TL_pure rfl rfl rfl rfl (op_fieldAddr fa69_2 rfl rfl) ?_
      refine TL_pure rfl rfl rfl rfl (op_load_one ag24 rfl rfl) ?_
      obtain ⟨r21, hr21, hm⟩ := bindS hm
      refine TL_callF (c_laws_eqInstrS p0.Code p1.Code r21 hr21) Try.call27 rfl rfl rfl rfl rfl ?_
      refine TL_pure rfl rfl rfl rfl (op_not rfl) ?_
      refine TL_nil ?_
      refine T_cond rfl (fun hq => ?_) (fun hq => ?_)
      · replace hm := condT hq hm
        refine T_seq ?_
        refine T_region ?_
        refine TL_pure rfl rfl rfl rfl (op_assign rfl) ?_
        refine TL_nil ?_
        refine T_keepH [4] [] rfl rfl rfl rfl (by rw [hF]; rfl) ?_
        refine T_ret ?_
        obtain rfl := someI hm
        refine ⟨[_], [], ⟨rfl, trivial⟩, ?_, rfl, rfl, rfl, rfl⟩
        rfl
      · replace hm := condF hq hm
        refine T_skip ?_
        refine T_seq ?_
        refine T_seq ?_
        refine T_region ?_
        refine TL_pure rfl rfl rfl rfl (op_fieldAddr fa69_3 rfl rfl) ?_
        refine TL_pure rfl rfl rfl rfl (op_load_one ag67 rfl rfl) ?_
        refine TL_pure rfl rfl rfl rfl (op_fieldAddr fa69_3 rfl rfl) ?_
        refine TL_pure rfl rfl rfl rfl (op_load_one ag67 rfl rfl) ?_
        obtain ⟨r27, hr27, hm⟩ := bindS hm
        refine TL_callF (c_laws_eqPointS p0.Points p1.Points r27 hr27) Try.call95 rfl rfl rfl rfl rfl ?_
        refine TL_pure rfl rfl rfl rfl (op_not rfl) ?_
        refine TL_nil ?_
        refine T_cond rfl (fun hq => ?_) (fun hq => ?_)
        · replace hm := condT hq hm
          refine T_seq ?_
          refine T_region ?_
          refine TL_pure rfl rfl rfl rfl (op_assign rfl) ?_
          refine TL_nil ?_
          refine T_keepH [4] [] rfl rfl rfl rfl (by rw [hF]; rfl) ?_
          refine T_ret ?_
          obtain rfl := someI hm
          refine ⟨[_], [], ⟨rfl, trivial⟩, ?_, rfl, rfl, rfl, rfl⟩
          rfl
        · replace hm := condF hq hm
          refine T_skip ?_
          refine T_seq ?_
          refine T_region ?_
          refine TL_pure rfl rfl rfl rfl (op_assign rfl) ?_
          refine TL_nil ?_
          refine T_keepH [4] [] rfl rfl rfl rfl (by rw [hF]; rfl) ?_
          refine T_ret ?_
          obtain rfl := someI hm
          refine ⟨[_], [], ⟨rfl, trivial⟩, ?_, rfl, rfl, rfl, rfl⟩
          rfl
theorem c_laws_markInt64S (p0 : List Int) (p1 : Int) (out : Int × (List Int)) (hm : m_laws_markInt64S p0 p1 = some out) (E0 : TypeId) : ACall Try.prog 31 [.ow 0, .int .i64 p1] [(0, .arr ⟨true, true⟩ 1 E0 (List.map a_i64 p0))] (.int .i64 out.1) [(0, .arr ⟨true, true⟩ 1 E0 (List.map a_i64 out.2))] := by
  refine ACall.intro Try.func31 rfl Try.ntmps31 rfl (fun F hF => ?_)
  unfold m_laws_markInt64S at hm
  refine T_seq ?_
  refine T_region ?_
  refine TL_pure rfl rfl rfl rfl (op_assign rfl) ?_
  refine TL_nil ?_
  refine T_seq ?_
  refine T_seq ?_
  refine T_region ?_
  refine TL_pure rfl rfl rfl rfl (op_assign rfl) ?_
  refine TL_nil ?_
  refine T_block ?_
  refine T_keepH [0, 1, 5] [0] rfl rfl rfl rfl (by rw [hF]; rfl) ?_
  refine T_loop ?_
  obtain ⟨u0, hl0, hm⟩ := bindS hm
  refine TR_iter2 (m_laws_markInt64S_L0) (fun (s0 : (List Int) × Int × Int) => ⟨[(0, .ow 0), (1, .int .i64 s0.2.1), (5, .int .i64 s0.2.2)], [(0, .arr ⟨true, true⟩ 1 E0 (List.map a_i64 s0.1))]⟩) (fun u0 => .exit 0) (fun u0 => ⟨[(1, .int .i64 u0.1)], [(0, .arr ⟨true, true⟩ 1 E0 (List.map a_i64 u0.2))]⟩) (fun u0 => m_laws_markInt64S_A0 u0 = some out) hl0 hm (fun u0 hm => ?_) (fun hx0 s0 c0 hm hc0 => ?_)
  · unfold m_laws_markInt64S_A0 at hm
    refine T_seq ?_
    refine T_region ?_
    refine TL_pure rfl rfl rfl rfl (op_move rfl) ?_
    refine TL_pure rfl rfl rfl rfl (op_assign rfl) ?_
    refine TL_nil ?_
    refine T_keepH [4] [0] rfl rfl rfl rfl (by rw [hF]; rfl) ?_
    refine T_ret ?_
    obtain rfl := someI hm
    refine ⟨[_], [0], ⟨rfl, trivial⟩, ?_, rfl, rfl, rfl, rfl⟩
    rfl
  · unfold m_laws_markInt64S_L0 at hm
    refine T_seq ?_
    refine T_seq ?_
    refine T_region ?_
    refine TL_pure rfl rfl rfl rfl (op_move rfl) ?_
    refine TL_pure rfl rfl rfl rfl (op_move rfl) ?_
    refine TL_pure rfl rfl rfl rfl (op_lenO Try.underlying26 rfl rfl (List.length_map _)) ?_
    refine TL_fact (fun _ _ _ hr => RelP.owLen (id := 0) rfl hr) (fun hlen8 => ?_)
    rw [List.length_map] at hlen8
    refine TL_pure rfl rfl rfl rfl (op_lss rfl rfl) ?_
    refine TL_nil ?_
    refine T_cond rfl (fun hq => ?_) (fun hq => ?_)
    · replace hm := condT hq hm
      refine T_skip ?_
      refine T_seq ?_
      refine T_block ?_
      refine T_seq ?_
      refine T_region ?_
      refine TL_pure rfl rfl rfl rfl (op_move rfl) ?_
      refine TL_pure rfl rfl rfl rfl (op_move rfl) ?_
      refine TL_pure rfl rfl rfl rfl (op_move rfl) ?_
      obtain ⟨x15, hx15, hm⟩ := bindS hm
      refine TL_pure rfl rfl rfl rfl (op_indexO el26 rfl rfl rfl hx15) ?_
      refine TL_storeFT sz2 rfl rfl ((getI_spec hx15).2) (v' := s0.2.1) rfl rfl rfl rfl rfl rfl rfl rfl rfl ?_
      refine TL_nil ?_
      refine T_region ?_
      refine TL_pure rfl rfl rfl rfl (op_move rfl) ?_
      refine TL_pure rfl rfl rfl rfl (op_addW rfl rfl) ?_
      refine TL_pure rfl rfl rfl rfl (op_assign rfl) ?_
      refine TL_nil ?_
      refine T_region ?_
      refine TL_pure rfl rfl rfl rfl (op_move rfl) ?_
      refine TL_pure rfl rfl rfl rfl (op_addW rfl rfl) ?_
      refine TL_pure rfl rfl rfl rfl (op_assign rfl) ?_
      refine TL_nil ?_
      refine TR_keepH [0, 1, 5] [0] rfl rfl rfl rfl (by rw [hF]; rfl) ?_
      obtain rfl := someI hm
      have hn := CtlOK_next hc0
      exact hn _ rfl
    · replace hm := condF hq hm
      refine T_keepH [1] [0] rfl rfl rfl rfl (by rw [hF]; rfl) ?_
      refine T_exit ?_
      obtain rfl := someI hm
      have hn := CtlOK_out hc0
      exact hx0 (s0.2.1, s0.1) hn
theorem c_laws_markTermS (p0 : List Term) (p1 : Int) (out : Int × (List Term)) (hm : m_laws_markTermS p0 p1 = some out) (E0 : TypeId) : ACall Try.prog 96 [.ow 0, .int .i64 p1] [(0, .arr ⟨true, true⟩ 2 E0 (List.map a_Term p0))] (.int .i64 out.1) [(0, .arr ⟨true, true⟩ 2 E0 (List.map a_Term out.2))] := by
  refine ACall.intro Try.func96 rfl Try.ntmps96 rfl (fun F hF => ?_)
  unfold m_laws_markTermS at hm
  refine T_seq ?_
  refine T_region ?_
  refine TL_pure rfl rfl rfl rfl (op_assign rfl) ?_
  refine TL_nil ?_
  refine T_seq ?_
  refine T_seq ?_
  refine T_region ?_
  refine TL_pure rfl rfl rfl rfl (op_assign rfl) ?_
  refine TL_nil ?_
  refine T_block ?_
  refine T_keepH [0, 1, 5] [0] rfl rfl rfl rfl (by rw [hF]; rfl) ?_
  refine T_loop ?_
  obtain ⟨u0, hl0, hm⟩ := bindS hm
  refine TR_iter2 (m_laws_markTermS_L0) (fun (s0 : (List Term) × Int × Int) => ⟨[(0, .ow 0), (1, .int .i64 s0.2.1), (5, .int .i64 s0.2.2)], [(0, .arr ⟨true, true⟩ 2 E0 (List.map a_Term s0.1))]⟩) (fun u0 => .exit 0) (fun u0 => ⟨[(1, .int .i64 u0.1)], [(0, .arr ⟨true, true⟩ 2 E0 (List.map a_Term u0.2))]⟩) (fun u0 => m_laws_markTermS_A0 u0 = some out) hl0 hm (fun u0 hm => ?_) (fun hx0 s0 c0 hm hc0 => ?_)
  · unfold m_laws_markTermS_A0 at hm
    refine T_seq ?_
    refine T_region ?_
    refine TL_pure rfl rfl rfl rfl (op_move rfl) ?_
    refine TL_pure rfl rfl rfl rfl (op_assign rfl) ?_
    refine TL_nil ?_
    refine T_keepH [4] [0] rfl rfl rfl rfl (by rw [hF]; rfl) ?_
    refine T_ret ?_
    obtain rfl := someI hm
    refine ⟨[_], [0], ⟨rfl, trivial⟩, ?_, rfl, rfl, rfl, rfl⟩
    rfl
  · unfold m_laws_markTermS_L0 at hm
    refine T_seq ?_
    refine T_seq ?_
    refine T_region ?_
    refine TL_pure rfl rfl rfl rfl (op_move rfl) ?_
    refine TL_pure rfl rfl rfl rfl (op_move rfl) ?_
    refine TL_pure rfl rfl rfl rfl (op_lenO Try.underlying66 rfl rfl (List.length_map _)) ?_
    refine TL_fact (fun _ _ _ hr => RelP.owLen (id := 0) rfl hr) (fun hlen8 => ?_)
    rw [List.length_map] at hlen8
    refine TL_pure rfl rfl rfl rfl (op_lss rfl rfl) ?_
    refine TL_nil ?_
    refine T_cond rfl (fun hq => ?_) (fun hq => ?_)
    · replace hm := condT hq hm
      refine T_skip ?_
      refine T_seq ?_
      refine T_block ?_
      refine T_seq ?_
      refine T_region ?_
      refine TL_pure rfl rfl rfl rfl (op_move rfl) ?_
      refine TL_pure rfl rfl rfl rfl (op_move rfl) ?_
      refine TL_pure rfl rfl rfl rfl (op_move rfl) ?_
      obtain ⟨x15, hx15, hm⟩ := bindS hm
      refine TL_pure rfl rfl rfl rfl (op_indexO el66 rfl rfl rfl hx15) ?_
      refine TL_pure rfl rfl rfl rfl (op_fieldAddr fa184_0 rfl rfl) ?_
      refine TL_storeFT sz2 rfl rfl ((getI_spec hx15).2) (v' := (Term.mk s0.2.1 x15.Coeffs)) rfl rfl rfl rfl rfl rfl rfl rfl rfl ?_
      refine TL_nil ?_
      refine T_seq ?_
      refine T_region ?_
      refine TL_pure rfl rfl rfl rfl (op_move rfl) ?_
      refine TL_pure rfl rfl rfl rfl (op_addW rfl rfl) ?_
      refine TL_pure rfl rfl rfl rfl (op_assign rfl) ?_
      refine TL_nil ?_
      refine T_region ?_
      refine TL_pure rfl rfl rfl rfl (op_move rfl) ?_
      refine TL_pure rfl rfl rfl rfl (op_move rfl) ?_
      obtain ⟨x21, hx21, hm⟩ := bindS hm
      refine TL_pure rfl rfl rfl rfl (op_indexO el66 rfl rfl rfl hx21) ?_
      refine TL_pure rfl rfl rfl rfl (op_fieldAddr fa184_1 rfl rfl) ?_
      refine TL_pure rfl rfl rfl rfl (op_loadD1 ag26 rfl rfl ((getI_spec hx21).2) rfl rfl rfl rfl) ?_
      refine TL_pure rfl rfl rfl rfl (op_move rfl) ?_
      obtain ⟨r25, hr25, hm⟩ := bindS hm
      refine TL_callSub (id := 0) (i := (s0.2.2).toNat) (j := 1) (e' := a_Term (Term.mk x21.Const r25.2)) (es' := List.map a_Term ((s0.1.set ((s0.2.2).toNat) (Term.mk s0.2.1 x15.Coeffs)).set ((s0.2.2).toNat) (Term.mk x21.Const r25.2))) (fun E' => c_laws_markInt64S x21.Coeffs (w64 (s0.2.1 + (1 : Int))) r25 hr25 E') Try.call31 rfl rfl (get_map ((getI_spec hx21).2)) rfl rfl rfl rfl ⟨.inl ⟨rfl, rfl⟩, .inr ⟨rfl, rfl⟩, trivial⟩ rfl rfl rfl (List.map_set) rfl rfl rfl ?_
      refine TL_pure rfl rfl rfl rfl (op_assign rfl) ?_
      refine TL_nil ?_
      refine T_region ?_
      refine TL_pure rfl rfl rfl rfl (op_move rfl) ?_
      refine TL_pure rfl rfl rfl rfl (op_addW rfl rfl) ?_
      refine TL_pure rfl rfl rfl rfl (op_assign rfl) ?_
      refine TL_nil ?_
      refine TR_keepH [0, 1, 5] [0] rfl rfl rfl rfl (by rw [hF]; rfl) ?_
      obtain rfl := someI hm
      have hn := CtlOK_next hc0
      exact hn _ rfl
    · replace hm := condF hq hm
      refine T_keepH [1] [0] rfl rfl rfl rfl (by rw [hF]; rfl) ?_
      refine T_exit ?_
      obtain rfl := someI hm
      have hn := CtlOK_out hc0
      exact hx0 (s0.2.1, s0.1) hn
theorem c_laws_markInstrS (p0 : List Instr) (p1 : Int) (out : Int × (List Instr)) (hm : m_laws_markInstrS p0 p1 = some out) (E0 : TypeId) : ACall Try.prog 29 [.ow 0, .int .i64 p1] [(0, .arr ⟨true, true⟩ 2 E0 (List.map a_Instr p0))] (.int .i64 out.1) [(0, .arr ⟨true, true⟩ 2 E0 (List.map a_Instr out.2))] := by
  refine ACall.intro Try.func29 rfl Try.ntmps29 rfl (fun F hF => ?_)
  unfold m_laws_markInstrS at hm
  refine T_seq ?_
  refine T_region ?_
  refine TL_pure rfl rfl rfl rfl (op_assign rfl) ?_
  refine TL_nil ?_
  refine T_seq ?_
  refine T_seq ?_
  refine T_region ?_
  refine TL_pure rfl rfl rfl rfl (op_assign rfl) ?_
  refine TL_nil ?_
  refine T_block ?_
  refine T_keepH [0, 1, 5] [0] rfl rfl rfl rfl (by rw [hF]; rfl) ?_
  refine T_loop ?_
  obtain ⟨u0, hl0, hm⟩ := bindS hm
  refine TR_iter2 (m_laws_markInstrS_L0) (fun (s0 : (List Instr) × Int × Int) => ⟨[(0, .ow 0), (1, .int .i64 s0.2.1), (5, .int .i64 s0.2.2)], [(0, .arr ⟨true, true⟩ 2 E0 (List.map a_Instr s0.1))]⟩) (fun u0 => .exit 0) (fun u0 => ⟨[(1, .int .i64 u0.1)], [(0, .arr ⟨true, true⟩ 2 E0 (List.map a_Instr u0.2))]⟩) (fun u0 => m_laws_markInstrS_A0 u0 = some out) hl0 hm (fun u0 hm => ?_) (fun hx0 s0 c0 hm hc0 => ?_)
  · unfold m_laws_markInstrS_A0 at hm
    refine T_seq ?_
    refine T_region ?_
    refine TL_pure rfl rfl rfl rfl (op_move rfl) ?_
    refine TL_pure rfl rfl rfl rfl (op_assign rfl) ?_
    refine TL_nil ?_
    refine T_keepH [4] [0] rfl rfl rfl rfl (by rw [hF]; rfl) ?_
    refine T_ret ?_
    obtain rfl := someI hm
    refine ⟨[_], [0], ⟨rfl, trivial⟩, ?_, rfl, rfl, rfl, rfl⟩
    rfl
  · unfold m_laws_markInstrS_L0 at hm
    refine T_seq ?_
    refine T_seq ?_
    refine T_region ?_
    refine TL_pure rfl rfl rfl rfl (op_move rfl) ?_
    refine TL_pure rfl rfl rfl rfl (op_move rfl) ?_
    refine TL_pure rfl rfl rfl rfl (op_lenO Try.underlying24 rfl rfl (List.length_map _)) ?_
    refine TL_fact (fun _ _ _ hr => RelP.owLen (id := 0) rfl hr) (fun hlen8 => ?_)
    rw [List.length_map] at hlen8
    refine TL_pure rfl rfl rfl rfl (op_lss rfl rfl) ?_
    refine TL_nil ?_
    refine T_cond rfl (fun hq => ?_) (fun hq => ?_)
    · replace hm := condT hq hm
      refine T_skip ?_
      refine T_seq ?_
      refine T_block ?_
      refine T_seq ?_
      refine T_region ?_
      refine TL_pure rfl rfl rfl rfl (op_move rfl) ?_
      refine TL_pure rfl rfl rfl rfl (op_move rfl) ?_
      refine TL_pure rfl rfl rfl rfl (op_move rfl) ?_
      obtain ⟨x15, hx15, hm⟩ := bindS hm
      refine TL_pure rfl rfl rfl rfl (op_indexO el24 rfl rfl rfl hx15) ?_
      refine TL_pure rfl rfl rfl rfl (op_fieldAddr fa40_0 rfl rfl) ?_
      refine TL_storeFT sz2 rfl rfl ((getI_spec hx15).2) (v' := (Instr.mk s0.2.1 x15.Arg)) rfl rfl rfl rfl rfl rfl rfl rfl rfl ?_
      refine TL_nil ?_
      refine T_seq ?_
      refine T_region ?_
      refine TL_pure rfl rfl rfl rfl (op_move rfl) ?_
      refine TL_pure rfl rfl rfl rfl (op_addW rfl rfl) ?_
      refine TL_pure rfl rfl rfl rfl (op_assign rfl) ?_
      refine TL_nil ?_
      refine T_seq ?_
      refine T_region ?_
      refine TL_pure rfl rfl rfl rfl (op_move rfl) ?_
      refine TL_pure rfl rfl rfl rfl (op_move rfl) ?_
      refine TL_pure rfl rfl rfl rfl (op_move rfl) ?_
      obtain ⟨x22, hx22, hm⟩ := bindS hm
      refine TL_pure rfl rfl rfl rfl (op_indexO el24 rfl rfl rfl hx22) ?_
      refine TL_pure rfl rfl rfl rfl (op_fieldAddr fa40_1 rfl rfl) ?_
      refine TL_storeFT sz2 rfl rfl ((getI_spec hx22).2) (v' := (Instr.mk x22.Op (w64 (s0.2.1 + (1 : Int))))) rfl rfl rfl rfl rfl rfl rfl rfl rfl ?_
      refine TL_nil ?_
      refine T_region ?_
      refine TL_pure rfl rfl rfl rfl (op_move rfl) ?_
      refine TL_pure rfl rfl rfl rfl (op_addW rfl rfl) ?_
      refine TL_pure rfl rfl rfl rfl (op_assign rfl) ?_
      refine TL_nil ?_
      refine T_region ?_
      refine TL_pure rfl rfl rfl rfl (op_move rfl) ?_
      refine TL_pure rfl rfl rfl rfl (op_addW rfl rfl) ?_
      refine TL_pure rfl rfl rfl rfl (op_assign rfl) ?_
      refine TL_nil ?_
      refine TR_keepH [0, 1, 5] [0] rfl rfl rfl rfl (by rw [hF]; rfl) ?_
      obtain rfl := someI hm
      have hn := CtlOK_next hc0
      exact hn _ rfl
    · replace hm := condF hq hm
      refine T_keepH [1] [0] rfl rfl rfl rfl (by rw [hF]; rfl) ?_
      refine T_exit ?_
      obtain rfl := someI hm
      have hn := CtlOK_out hc0
      exact hx0 (s0.2.1, s0.1) hn
theorem c_laws_markPointS (p0 : List Point) (p1 : Int) (out : Int × (List Point)) (hm : m_laws_markPointS p0 p1 = some out) (E0 : TypeId) : ACall Try.prog 97 [.ow 0, .int .i64 p1] [(0, .arr ⟨true, true⟩ 2 E0 (List.map a_Point p0))] (.int .i64 out.1) [(0, .arr ⟨true, true⟩ 2 E0 (List.map a_Point out.2))] := by
  refine ACall.intro Try.func97 rfl Try.ntmps97 rfl (fun F hF => ?_)
  unfold m_laws_markPointS at hm
  refine T_seq ?_
  refine T_region ?_
  refine TL_pure rfl rfl rfl rfl (op_assign rfl) ?_
  refine TL_nil ?_
  refine T_seq ?_
  refine T_seq ?_
  refine T_region ?_
  refine TL_pure rfl rfl rfl rfl (op_assign rfl) ?_
  refine TL_nil ?_
  refine T_block ?_
  refine T_keepH [0, 1, 5] [0] rfl rfl rfl rfl (by rw [hF]; rfl) ?_
  refine T_loop ?_
  obtain ⟨u0, hl0, hm⟩ := bindS hm
  refine TR_iter2 (m_laws_markPointS_L0) (fun (s0 : (List Point) × Int × Int) => ⟨[(0, .ow 0), (1, .int .i64 s0.2.1), (5, .int .i64 s0.2.2)], [(0, .arr ⟨true, true⟩ 2 E0 (List.map a_Point s0.1))]⟩) (fun u0 => .exit 0) (fun u0 => ⟨[(1, .int .i64 u0.1)], [(0, .arr ⟨true, true⟩ 2 E0 (List.map a_Point u0.2))]⟩) (fun u0 => m_laws_markPointS_A0 u0 = some out) hl0 hm (fun u0 hm => ?_) (fun hx0 s0 c0 hm hc0 => ?_)
  · unfold m_laws_markPointS_A0 at hm
    refine T_seq ?_
    refine T_region ?_
    refine TL_pure rfl rfl rfl rfl (op_move rfl) ?_
    refine TL_pure rfl rfl rfl rfl (op_assign rfl) ?_
    refine TL_nil ?_
    refine T_keepH [4] [0] rfl rfl rfl rfl (by rw [hF]; rfl) ?_
    refine T_ret ?_
    obtain rfl := someI hm
    refine ⟨[_], [0], ⟨rfl, trivial⟩, ?_, rfl, rfl, rfl, rfl⟩
    rfl
  · unfold m_laws_markPointS_L0 at hm
    refine T_seq ?_
    refine T_seq ?_
    refine T_region ?_
    refine TL_pure rfl rfl rfl rfl (op_move rfl) ?_
    refine TL_pure rfl rfl rfl rfl (op_move rfl) ?_
    refine TL_pure rfl rfl rfl rfl (op_lenO Try.underlying67 rfl rfl (List.length_map _)) ?_
    refine TL_fact (fun _ _ _ hr => RelP.owLen (id := 0) rfl hr) (fun hlen8 => ?_)
    rw [List.length_map] at hlen8
    refine TL_pure rfl rfl rfl rfl (op_lss rfl rfl) ?_
    refine TL_nil ?_
    refine T_cond rfl (fun hq => ?_) (fun hq => ?_)
    · replace hm := condT hq hm
      refine T_skip ?_
      refine T_seq ?_
      refine T_block ?_
      refine T_seq ?_
      refine T_region ?_
      refine TL_pure rfl rfl rfl rfl (op_move rfl) ?_
      refine TL_pure rfl rfl rfl rfl (op_move rfl) ?_
      refine TL_pure rfl rfl rfl rfl (op_move rfl) ?_
      obtain ⟨x15, hx15, hm⟩ := bindS hm
      refine TL_pure rfl rfl rfl rfl (op_indexO el67 rfl rfl rfl hx15) ?_
      refine TL_pure rfl rfl rfl rfl (op_fieldAddr fa81_0 rfl rfl) ?_
      refine TL_storeFT sz2 rfl rfl ((getI_spec hx15).2) (v' := (Point.mk s0.2.1 x15.Facts)) rfl rfl rfl rfl rfl rfl rfl rfl rfl ?_
      refine TL_nil ?_
      refine T_seq ?_
      refine T_region ?_
      refine TL_pure rfl rfl rfl rfl (op_move rfl) ?_
      refine TL_pure rfl rfl rfl rfl (op_addW rfl rfl) ?_
      refine TL_pure rfl rfl rfl rfl (op_assign rfl) ?_
      refine TL_nil ?_
      refine T_region ?_
      refine TL_pure rfl rfl rfl rfl (op_move rfl) ?_
      refine TL_pure rfl rfl rfl rfl (op_move rfl) ?_
      obtain ⟨x21, hx21, hm⟩ := bindS hm
      refine TL_pure rfl rfl rfl rfl (op_indexO el67 rfl rfl rfl hx21) ?_
      refine TL_pure rfl rfl rfl rfl (op_fieldAddr fa81_1 rfl rfl) ?_
      refine TL_pure rfl rfl rfl rfl (op_loadD1 ag66 rfl rfl ((getI_spec hx21).2) rfl rfl rfl rfl) ?_
      refine TL_pure rfl rfl rfl rfl (op_move rfl) ?_
      obtain ⟨r25, hr25, hm⟩ := bindS hm
      refine TL_callSub (id := 0) (i := (s0.2.2).toNat) (j := 1) (e' := a_Point (Point.mk x21.At r25.2)) (es' := List.map a_Point ((s0.1.set ((s0.2.2).toNat) (Point.mk s0.2.1 x15.Facts)).set ((s0.2.2).toNat) (Point.mk x21.At r25.2))) (fun E' => c_laws_markTermS x21.Facts (w64 (s0.2.1 + (1 : Int))) r25 hr25 E') Try.call96 rfl rfl (get_map ((getI_spec hx21).2)) rfl rfl rfl rfl ⟨.inl ⟨rfl, rfl⟩, .inr ⟨rfl, rfl⟩, trivial⟩ rfl rfl rfl (List.map_set) rfl rfl rfl ?_
      refine TL_pure rfl rfl rfl rfl (op_assign rfl) ?_
      refine TL_nil ?_
      refine T_region ?_
      refine TL_pure rfl rfl rfl rfl (op_move rfl) ?_
      refine TL_pure rfl rfl rfl rfl (op_addW rfl rfl) ?_
      refine TL_pure rfl rfl rfl rfl (op_assign rfl) ?_
      refine TL_nil ?_
      refine TR_keepH [0, 1, 5] [0] rfl rfl rfl rfl (by rw [hF]; rfl) ?_
      obtain rfl := someI hm
      have hn := CtlOK_next hc0
      exact hn _ rfl
    · replace hm := condF hq hm
      refine T_keepH [1] [0] rfl rfl rfl rfl (by rw [hF]; rfl) ?_
      refine T_exit ?_
      obtain rfl := someI hm
      have hn := CtlOK_out hc0
      exact hx0 (s0.2.1, s0.1) hn
theorem c_laws_markAnnotated (p0 : Annotated) (p1 : Int) (out : Int × (List Term) × (List Term) × (List Instr) × (List Point)) (hm : m_laws_markAnnotated p0 p1 = some out) (E0 : TypeId) (E1 : TypeId) (E2 : TypeId) (E3 : TypeId) : ACall Try.prog 46 [.agg [.ow 0, .ow 1, .ow 2, .ow 3], .int .i64 p1] [(0, .arr ⟨true, true⟩ 2 E0 (List.map a_Term p0.Pre)), (1, .arr ⟨true, true⟩ 2 E1 (List.map a_Term p0.Post)), (2, .arr ⟨true, true⟩ 2 E2 (List.map a_Instr p0.Code)), (3, .arr ⟨true, true⟩ 2 E3 (List.map a_Point p0.Points))] (.int .i64 out.1) [(0, .arr ⟨true, true⟩ 2 E0 (List.map a_Term out.2.1)), (1, .arr ⟨true, true⟩ 2 E1 (List.map a_Term out.2.2.1)), (2, .arr ⟨true, true⟩ 2 E2 (List.map a_Instr out.2.2.2.1)), (3, .arr ⟨true, true⟩ 2 E3 (List.map a_Point out.2.2.2.2))] := by
  refine ACall.intro Try.func46 rfl Try.ntmps46 rfl (fun F hF => ?_)
  unfold m_laws_markAnnotated at hm
  refine T_seq ?_
  refine T_region ?_
  refine TL_box 11 rfl rfl rfl rfl rfl rfl rfl ?_
  refine TL_pure rfl rfl rfl rfl (op_assign rfl) ?_
  refine TL_nil ?_
  refine T_seq ?_
  refine T_region ?_
  refine TL_pure rfl rfl rfl rfl (op_fieldAddr fa69_0 rfl rfl) ?_
  refine TL_pure rfl rfl rfl rfl (op_load_one ag66 rfl rfl) ?_
  refine TL_pure rfl rfl rfl rfl (op_move rfl) ?_
  obtain ⟨r8, hr8, hm⟩ := bindS hm
  refine TL_call [(0, 0)] [] [] (c_laws_markTermS p0.Pre p1 r8 hr8 _) Try.call96 rfl rfl rfl rfl rfl ⟨rfl, trivial⟩ rfl rfl rfl rfl rfl rfl rfl rfl rfl rfl rfl ?_
  refine TL_pure rfl rfl rfl rfl (op_assign rfl) ?_
  refine TL_nil ?_
  refine T_seq ?_
  refine T_region ?_
  refine TL_pure rfl rfl rfl rfl (op_fieldAddr fa69_1 rfl rfl) ?_
  refine TL_pure rfl rfl rfl rfl (op_load_one ag66 rfl rfl) ?_
  refine TL_pure rfl rfl rfl rfl (op_move rfl) ?_
  obtain ⟨r12, hr12, hm⟩ := bindS hm
  refine TL_call [(0, 1)] [] [] (c_laws_markTermS p0.Post r8.1 r12 hr12 _) Try.call96 rfl rfl rfl rfl rfl ⟨rfl, trivial⟩ rfl rfl rfl rfl rfl rfl rfl rfl rfl rfl rfl ?_
  refine TL_pure rfl rfl rfl rfl (op_assign rfl) ?_
  refine TL_nil ?_
  refine T_seq ?_
  refine T_region ?_
  refine TL_pure rfl rfl rfl rfl (op_fieldAddr fa69_2 rfl rfl) ?_
  refine TL_pure rfl rfl rfl rfl (op_load_one ag24 rfl rfl) ?_
  refine TL_pure rfl rfl rfl rfl (op_move rfl) ?_
  obtain ⟨r16, hr16, hm⟩ := bindS hm
  refine TL_call [(0, 2)] [] [] (c_laws_markInstrS p0.Code r12.1 r16 hr16 _) Try.call29 rfl rfl rfl rfl rfl ⟨rfl, trivial⟩ rfl rfl rfl rfl rfl rfl rfl rfl rfl rfl rfl ?_
  refine TL_pure rfl rfl rfl rfl (op_assign rfl) ?_
  refine TL_nil ?_
  refine T_seq ?_
  refine T_region ?_
  refine TL_pure rfl rfl rfl rfl (op_fieldAddr fa69_3 rfl rfl) ?_
  refine TL_pure rfl rfl rfl rfl (op_load_one ag67 rfl rfl) ?_
  refine TL_pure rfl rfl rfl rfl (op_move rfl) ?_
  obtain ⟨r20, hr20, hm⟩ := bindS hm
  refine TL_call [(0, 3)] [] [] (c_laws_markPointS p0.Points r16.1 r20 hr20 _) Try.call97 rfl rfl rfl rfl rfl ⟨rfl, trivial⟩ rfl rfl rfl rfl rfl rfl rfl rfl rfl rfl rfl ?_
  refine TL_pure rfl rfl rfl rfl (op_assign rfl) ?_
  refine TL_nil ?_
  refine T_seq ?_
  refine T_region ?_
  refine TL_pure rfl rfl rfl rfl (op_move rfl) ?_
  refine TL_pure rfl rfl rfl rfl (op_assign rfl) ?_
  refine TL_nil ?_
  refine T_keepH [4] [0, 1, 2, 3] rfl rfl rfl rfl (by rw [hF]; rfl) ?_
  refine T_ret ?_
  obtain rfl := someI hm
  refine ⟨[_], [0, 1, 2, 3], ⟨rfl, trivial⟩, ?_, rfl, rfl, rfl, rfl⟩
  rfl
theorem c_laws_heldInt64S (p0 : List Int) (p1 : Int) (out : Int) (hm : m_laws_heldInt64S p0 p1 = some out) : ACall Try.prog 32 [.sl 1 (List.map a_i64 p0), .int .i64 p1] [] (.int .i64 out) [] := by
  refine ACall.intro Try.func32 rfl Try.ntmps32 rfl (fun F hF => ?_)
  unfold m_laws_heldInt64S at hm
  refine T_seq ?_
  refine T_region ?_
  refine TL_pure rfl rfl rfl rfl (op_assign rfl) ?_
  refine TL_nil ?_
  refine T_seq ?_
  refine T_seq ?_
  refine T_region ?_
  refine TL_pure rfl rfl rfl rfl (op_assign rfl) ?_
  refine TL_nil ?_
  refine T_block ?_
  refine T_keepH [0, 1, 5] [] rfl rfl rfl rfl (by rw [hF]; rfl) ?_
  refine T_loop ?_
  obtain ⟨u0, hl0, hm⟩ := bindS hm
  refine TR_iter2 (m_laws_heldInt64S_L0 p0) (fun (s0 : Int × Int) => ⟨[(0, .sl 1 (List.map a_i64 p0)), (1, .int .i64 s0.1), (5, .int .i64 s0.2)], []⟩) (fun u0 => match u0 with | .inl u0 => .exit 0 | .inr u0 => .ret) (fun u0 => match u0 with | .inl u0 => ⟨[(1, .int .i64 u0)], []⟩ | .inr u0 => ⟨[(4, .int .i64 u0)], []⟩) (fun u0 => m_laws_heldInt64S_A0 u0 = some out) hl0 hm (fun u0 hm => ?_) (fun hx0 s0 c0 hm hc0 => ?_)
  · rcases u0 with u0 | u0
    · unfold m_laws_heldInt64S_A0 at hm
      refine T_seq ?_
      refine T_region ?_
      refine TL_pure rfl rfl rfl rfl (op_move rfl) ?_
      refine TL_pure rfl rfl rfl rfl (op_assign rfl) ?_
      refine TL_nil ?_
      refine T_keepH [4] [] rfl rfl rfl rfl (by rw [hF]; rfl) ?_
      refine T_ret ?_
      obtain rfl := someI hm
      refine ⟨[_], [], ⟨rfl, trivial⟩, ?_, rfl, rfl, rfl, rfl⟩
      rfl
    · unfold m_laws_heldInt64S_A0 at hm
      obtain rfl := someI hm
      refine ⟨[_], [], ⟨rfl, trivial⟩, ?_, rfl, rfl, rfl, rfl⟩
      rfl
  · unfold m_laws_heldInt64S_L0 at hm
    refine T_seq ?_
    refine T_seq ?_
    refine T_region ?_
    refine TL_pure rfl rfl rfl rfl (op_move rfl) ?_
    refine TL_pure rfl rfl rfl rfl (op_move rfl) ?_
    refine TL_pure rfl rfl rfl rfl (op_lenT Try.underlying26 rfl (List.length_map _)) ?_
    refine TL_fact (fun _ _ _ hr => RelP.slLen (i := 7) rfl hr) (fun hlen8 => ?_)
    rw [List.length_map] at hlen8
    refine TL_pure rfl rfl rfl rfl (op_lss rfl rfl) ?_
    refine TL_nil ?_
    refine T_cond rfl (fun hq => ?_) (fun hq => ?_)
    · replace hm := condT hq hm
      refine T_skip ?_
      refine T_seq ?_
      refine T_block ?_
      refine T_seq ?_
      refine T_seq ?_
      refine T_region ?_
      refine TL_pure rfl rfl rfl rfl (op_move rfl) ?_
      refine TL_pure rfl rfl rfl rfl (op_move rfl) ?_
      obtain ⟨x14, hx14, hm⟩ := bindS hm
      refine TL_pure rfl rfl rfl rfl (op_indexT el26 rfl rfl hx14 rfl) ?_
      refine TL_pure rfl rfl rfl rfl (op_load_one ag2 rfl rfl) ?_
      refine TL_pure rfl rfl rfl rfl (op_move rfl) ?_
      refine TL_pure rfl rfl rfl rfl (op_neq rfl rfl) ?_
      refine TL_nil ?_
      refine T_cond rfl (fun hq => ?_) (fun hq => ?_)
      · replace hm := condT hq hm
        refine T_seq ?_
        refine T_region ?_
        refine TL_pure rfl rfl rfl rfl (op_assign rfl) ?_
        refine TL_nil ?_
        refine T_keepH [4] [] rfl rfl rfl rfl (by rw [hF]; rfl) ?_
        refine T_ret ?_
        obtain rfl := someI hm
        have hn := CtlOK_out hc0
        exact hx0 (.inr (-1 : Int)) hn
      · replace hm := condF hq hm
        refine T_skip ?_
        refine T_region ?_
        refine TL_pure rfl rfl rfl rfl (op_move rfl) ?_
        refine TL_pure rfl rfl rfl rfl (op_addW rfl rfl) ?_
        refine TL_pure rfl rfl rfl rfl (op_assign rfl) ?_
        refine TL_nil ?_
        refine T_region ?_
        refine TL_pure rfl rfl rfl rfl (op_move rfl) ?_
        refine TL_pure rfl rfl rfl rfl (op_addW rfl rfl) ?_
        refine TL_pure rfl rfl rfl rfl (op_assign rfl) ?_
        refine TL_nil ?_
        refine TR_keepH [0, 1, 5] [] rfl rfl rfl rfl (by rw [hF]; rfl) ?_
        obtain rfl := someI hm
        have hn := CtlOK_next hc0
        exact hn _ rfl
    · replace hm := condF hq hm
      refine T_keepH [1] [] rfl rfl rfl rfl (by rw [hF]; rfl) ?_
      refine T_exit ?_
      obtain rfl := someI hm
      have hn := CtlOK_out hc0
      exact hx0 (.inl s0.1) hn
theorem c_laws_heldTermS (p0 : List Term) (p1 : Int) (out : Int) (hm : m_laws_heldTermS p0 p1 = some out) : ACall Try.prog 98 [.sl 2 (List.map a_Term p0), .int .i64 p1] [] (.int .i64 out) [] := by
  refine ACall.intro Try.func98 rfl Try.ntmps98 rfl (fun F hF => ?_)
  unfold m_laws_heldTermS at hm
  refine T_seq ?_
  refine T_region ?_
  refine TL_pure rfl rfl rfl rfl (op_assign rfl) ?_
  refine TL_nil ?_
  refine T_seq ?_
  refine T_seq ?_
  refine T_region ?_
  refine TL_pure rfl rfl rfl rfl (op_assign rfl) ?_
  refine TL_nil ?_
  refine T_block ?_
  refine T_keepH [0, 1, 5] [] rfl rfl rfl rfl (by rw [hF]; rfl) ?_
  refine T_loop ?_
  obtain ⟨u0, hl0, hm⟩ := bindS hm
  refine TR_iter2 (m_laws_heldTermS_L0 p0) (fun (s0 : Int × Int) => ⟨[(0, .sl 2 (List.map a_Term p0)), (1, .int .i64 s0.1), (5, .int .i64 s0.2)], []⟩) (fun u0 => match u0 with | .inl u0 => .exit 0 | .inr u0 => .ret) (fun u0 => match u0 with | .inl u0 => ⟨[(1, .int .i64 u0)], []⟩ | .inr u0 => ⟨[(4, .int .i64 u0)], []⟩) (fun u0 => m_laws_heldTermS_A0 u0 = some out) hl0 hm (fun u0 hm => ?_) (fun hx0 s0 c0 hm hc0 => ?_)
  · rcases u0 with u0 | u0
    · unfold m_laws_heldTermS_A0 at hm
      refine T_seq ?_
      refine T_region ?_
      refine TL_pure rfl rfl rfl rfl (op_move rfl) ?_
      refine TL_pure rfl rfl rfl rfl (op_assign rfl) ?_
      refine TL_nil ?_
      refine T_keepH [4] [] rfl rfl rfl rfl (by rw [hF]; rfl) ?_
      refine T_ret ?_
      obtain rfl := someI hm
      refine ⟨[_], [], ⟨rfl, trivial⟩, ?_, rfl, rfl, rfl, rfl⟩
      rfl
    · unfold m_laws_heldTermS_A0 at hm
      obtain rfl := someI hm
      refine ⟨[_], [], ⟨rfl, trivial⟩, ?_, rfl, rfl, rfl, rfl⟩
      rfl
  · unfold m_laws_heldTermS_L0 at hm
    refine T_seq ?_
    refine T_seq ?_
    refine T_region ?_
    refine TL_pure rfl rfl rfl rfl (op_move rfl) ?_
    refine TL_pure rfl rfl rfl rfl (op_move rfl) ?_
    refine TL_pure rfl rfl rfl rfl (op_lenT Try.underlying66 rfl (List.length_map _)) ?_
    refine TL_fact (fun _ _ _ hr => RelP.slLen (i := 7) rfl hr) (fun hlen8 => ?_)
    rw [List.length_map] at hlen8
    refine TL_pure rfl rfl rfl rfl (op_lss rfl rfl) ?_
    refine TL_nil ?_
    refine T_cond rfl (fun hq => ?_) (fun hq => ?_)
    · replace hm := condT hq hm
      refine T_skip ?_
      refine T_seq ?_
      refine T_block ?_
      refine T_seq ?_
      refine T_seq ?_
      refine T_region ?_
      refine TL_pure rfl rfl rfl rfl (op_move rfl) ?_
      refine TL_pure rfl rfl rfl rfl (op_move rfl) ?_
      obtain ⟨x14, hx14, hm⟩ := bindS hm
      refine TL_pure rfl rfl rfl rfl (op_indexT el66 rfl rfl hx14 rfl) ?_
      refine TL_pure rfl rfl rfl rfl (op_fieldAddrC (n := 1) fa184_0 rfl rfl rfl) ?_
      refine TL_pure rfl rfl rfl rfl (op_load_one ag2 rfl rfl) ?_
      refine TL_pure rfl rfl rfl rfl (op_move rfl) ?_
      refine TL_pure rfl rfl rfl rfl (op_neq rfl rfl) ?_
      refine TL_nil ?_
      refine T_cond rfl (fun hq => ?_) (fun hq => ?_)
      · replace hm := condT hq hm
        refine T_seq ?_
        refine T_region ?_
        refine TL_pure rfl rfl rfl rfl (op_assign rfl) ?_
        refine TL_nil ?_
        refine T_keepH [4] [] rfl rfl rfl rfl (by rw [hF]; rfl) ?_
        refine T_ret ?_
        obtain rfl := someI hm
        have hn := CtlOK_out hc0
        exact hx0 (.inr (-1 : Int)) hn
      · replace hm := condF hq hm
        refine T_skip ?_
        refine T_seq ?_
        refine T_region ?_
        refine TL_pure rfl rfl rfl rfl (op_move rfl) ?_
        refine TL_pure rfl rfl rfl rfl (op_addW rfl rfl) ?_
        refine TL_pure rfl rfl rfl rfl (op_assign rfl) ?_
        refine TL_nil ?_
        refine T_seq ?_
        refine T_region ?_
        refine TL_pure rfl rfl rfl rfl (op_move rfl) ?_
        refine TL_pure rfl rfl rfl rfl (op_move rfl) ?_
        refine TL_pure rfl rfl rfl rfl (op_indexT el66 rfl rfl hx14 rfl) ?_
        refine TL_pure rfl rfl rfl rfl (op_fieldAddr fa184_1 rfl rfl) ?_
        refine TL_pure rfl rfl rfl rfl (op_load_one ag26 rfl rfl) ?_
        refine TL_pure rfl rfl rfl rfl (op_move rfl) ?_
        obtain ⟨r27, hr27, hm⟩ := bindS hm
        refine TL_callF (c_laws_heldInt64S x14.Coeffs (w64 (s0.1 + (1 : Int))) r27 hr27) Try.call32 rfl rfl rfl rfl rfl ?_
        refine TL_pure rfl rfl rfl rfl (op_assign rfl) ?_
        refine TL_nil ?_
        refine T_seq ?_
        refine T_region ?_
        refine TL_pure rfl rfl rfl rfl (op_move rfl) ?_
        refine TL_pure rfl rfl rfl rfl (op_lss rfl rfl) ?_
        refine TL_nil ?_
        refine T_cond rfl (fun hq => ?_) (fun hq => ?_)
        · replace hm := condT hq hm
          refine T_seq ?_
          refine T_region ?_
          refine TL_pure rfl rfl rfl rfl (op_assign rfl) ?_
          refine TL_nil ?_
          refine T_keepH [4] [] rfl rfl rfl rfl (by rw [hF]; rfl) ?_
          refine T_ret ?_
          obtain rfl := someI hm
          have hn := CtlOK_out hc0
          exact hx0 (.inr (-1 : Int)) hn
        · replace hm := condF hq hm
          refine T_skip ?_
          refine T_region ?_
          refine TL_pure rfl rfl rfl rfl (op_move rfl) ?_
          refine TL_pure rfl rfl rfl rfl (op_addW rfl rfl) ?_
          refine TL_pure rfl rfl rfl rfl (op_assign rfl) ?_
          refine TL_nil ?_
          refine TR_keepH [0, 1, 5] [] rfl rfl rfl rfl (by rw [hF]; rfl) ?_
          obtain rfl := someI hm
          have hn := CtlOK_next hc0
          exact hn _ rfl
    · replace hm := condF hq hm
      refine T_keepH [1] [] rfl rfl rfl rfl (by rw [hF]; rfl) ?_
      refine T_exit ?_
      obtain rfl := someI hm
      have hn := CtlOK_out hc0
      exact hx0 (.inl s0.1) hn
theorem c_laws_heldInstrS (p0 : List Instr) (p1 : Int) (out : Int) (hm : m_laws_heldInstrS p0 p1 = some out) : ACall Try.prog 99 [.sl 2 (List.map a_Instr p0), .int .i64 p1] [] (.int .i64 out) [] := by
  refine ACall.intro Try.func99 rfl Try.ntmps99 rfl (fun F hF => ?_)
  unfold m_laws_heldInstrS at hm
  refine T_seq ?_
  refine T_region ?_
  refine TL_pure rfl rfl rfl rfl (op_assign rfl) ?_
  refine TL_nil ?_
  refine T_seq ?_
  refine T_seq ?_
  refine T_region ?_
  refine TL_pure rfl rfl rfl rfl (op_assign rfl) ?_
  refine TL_nil ?_
  refine T_block ?_
  refine T_keepH [0, 1, 5] [] rfl rfl rfl rfl (by rw [hF]; rfl) ?_
  refine T_loop ?_
  obtain ⟨u0, hl0, hm⟩ := bindS hm
  refine TR_iter2 (m_laws_heldInstrS_L0 p0) (fun (s0 : Int × Int) => ⟨[(0, .sl 2 (List.map a_Instr p0)), (1, .int .i64 s0.1), (5, .int .i64 s0.2)], []⟩) (fun u0 => match u0 with | .inl u0 => .exit 0 | .inr u0 => .ret) (fun u0 => match u0 with | .inl u0 => ⟨[(1, .int .i64 u0)], []⟩ | .inr u0 => ⟨[(4, .int .i64 u0)], []⟩) (fun u0 => m_laws_heldInstrS_A0 u0 = some out) hl0 hm (fun u0 hm => ?_) (fun hx0 s0 c0 hm hc0 => ?_)
  · rcases u0 with u0 | u0
    · unfold m_laws_heldInstrS_A0 at hm
      refine T_seq ?_
      refine T_region ?_
      refine TL_pure rfl rfl rfl rfl (op_move rfl) ?_
      refine TL_pure rfl rfl rfl rfl (op_assign rfl) ?_
      refine TL_nil ?_
      refine T_keepH [4] [] rfl rfl rfl rfl (by rw [hF]; rfl) ?_
      refine T_ret ?_
      obtain rfl := someI hm
      refine ⟨[_], [], ⟨rfl, trivial⟩, ?_, rfl, rfl, rfl, rfl⟩
      rfl
    · unfold m_laws_heldInstrS_A0 at hm
      obtain rfl := someI hm
      refine ⟨[_], [], ⟨rfl, trivial⟩, ?_, rfl, rfl, rfl, rfl⟩
      rfl
  · unfold m_laws_heldInstrS_L0 at hm
    refine T_seq ?_
    refine T_seq ?_
    refine T_region ?_
    refine TL_pure rfl rfl rfl rfl (op_move rfl) ?_
    refine TL_pure rfl rfl rfl rfl (op_move rfl) ?_
    refine TL_pure rfl rfl rfl rfl (op_lenT Try.underlying24 rfl (List.length_map _)) ?_
    refine TL_fact (fun _ _ _ hr => RelP.slLen (i := 7) rfl hr) (fun hlen8 => ?_)
    rw [List.length_map] at hlen8
    refine TL_pure rfl rfl rfl rfl (op_lss rfl rfl) ?_
    refine TL_nil ?_
    refine T_cond rfl (fun hq => ?_) (fun hq => ?_)
    · replace hm := condT hq hm
      refine T_skip ?_
      refine T_seq ?_
      refine T_block ?_
      refine T_seq ?_
      refine T_seq ?_
      refine T_region ?_
      refine TL_pure rfl rfl rfl rfl (op_move rfl) ?_
      refine TL_pure rfl rfl rfl rfl (op_move rfl) ?_
      obtain ⟨x14, hx14, hm⟩ := bindS hm
      refine TL_pure rfl rfl rfl rfl (op_indexT el24 rfl rfl hx14 rfl) ?_
      refine TL_pure rfl rfl rfl rfl (op_fieldAddrC (n := 1) fa40_0 rfl rfl rfl) ?_
      refine TL_pure rfl rfl rfl rfl (op_load_one ag2 rfl rfl) ?_
      refine TL_pure rfl rfl rfl rfl (op_move rfl) ?_
      refine TL_pure rfl rfl rfl rfl (op_neq rfl rfl) ?_
      refine TL_nil ?_
      refine T_cond rfl (fun hq => ?_) (fun hq => ?_)
      · replace hm := condT hq hm
        refine T_seq ?_
        refine T_region ?_
        refine TL_pure rfl rfl rfl rfl (op_assign rfl) ?_
        refine TL_nil ?_
        refine T_keepH [4] [] rfl rfl rfl rfl (by rw [hF]; rfl) ?_
        refine T_ret ?_
        obtain rfl := someI hm
        have hn := CtlOK_out hc0
        exact hx0 (.inr (-1 : Int)) hn
      · replace hm := condF hq hm
        refine T_skip ?_
        refine T_seq ?_
        refine T_region ?_
        refine TL_pure rfl rfl rfl rfl (op_move rfl) ?_
        refine TL_pure rfl rfl rfl rfl (op_addW rfl rfl) ?_
        refine TL_pure rfl rfl rfl rfl (op_assign rfl) ?_
        refine TL_nil ?_
        refine T_seq ?_
        refine T_seq ?_
        refine T_region ?_
        refine TL_pure rfl rfl rfl rfl (op_move rfl) ?_
        refine TL_pure rfl rfl rfl rfl (op_move rfl) ?_
        refine TL_pure rfl rfl rfl rfl (op_indexT el24 rfl rfl hx14 rfl) ?_
        refine TL_pure rfl rfl rfl rfl (op_fieldAddr fa40_1 rfl rfl) ?_
        refine TL_pure rfl rfl rfl rfl (op_load_one ag2 rfl rfl) ?_
        refine TL_pure rfl rfl rfl rfl (op_move rfl) ?_
        refine TL_pure rfl rfl rfl rfl (op_neq rfl rfl) ?_
        refine TL_nil ?_
        refine T_cond rfl (fun hq => ?_) (fun hq => ?_)
        · replace hm := condT hq hm
          refine T_seq ?_
          refine T_region ?_
          refine TL_pure rfl rfl rfl rfl (op_assign rfl) ?_
          refine TL_nil ?_
          refine T_keepH [4] [] rfl rfl rfl rfl (by rw [hF]; rfl) ?_
          refine T_ret ?_
          obtain rfl := someI hm
          have hn := CtlOK_out hc0
          exact hx0 (.inr (-1 : Int)) hn
        · replace hm := condF hq hm
          refine T_skip ?_
          refine T_region ?_
          refine TL_pure rfl rfl rfl rfl (op_move rfl) ?_
          refine TL_pure rfl rfl rfl rfl (op_addW rfl rfl) ?_
          refine TL_pure rfl rfl rfl rfl (op_assign rfl) ?_
          refine TL_nil ?_
          refine T_region ?_
          refine TL_pure rfl rfl rfl rfl (op_move rfl) ?_
          refine TL_pure rfl rfl rfl rfl (op_addW rfl rfl) ?_
          refine TL_pure rfl rfl rfl rfl (op_assign rfl) ?_
          refine TL_nil ?_
          refine TR_keepH [0, 1, 5] [] rfl rfl rfl rfl (by rw [hF]; rfl) ?_
          obtain rfl := someI hm
          have hn := CtlOK_next hc0
          exact hn _ rfl
    · replace hm := condF hq hm
      refine T_keepH [1] [] rfl rfl rfl rfl (by rw [hF]; rfl) ?_
      refine T_exit ?_
      obtain rfl := someI hm
      have hn := CtlOK_out hc0
      exact hx0 (.inl s0.1) hn
theorem c_laws_heldPointS (p0 : List Point) (p1 : Int) (out : Int) (hm : m_laws_heldPointS p0 p1 = some out) : ACall Try.prog 100 [.sl 2 (List.map a_Point p0), .int .i64 p1] [] (.int .i64 out) [] := by
  refine ACall.intro Try.func100 rfl Try.ntmps100 rfl (fun F hF => ?_)
  unfold m_laws_heldPointS at hm
  refine T_seq ?_
  refine T_region ?_
  refine TL_pure rfl rfl rfl rfl (op_assign rfl) ?_
  refine TL_nil ?_
  refine T_seq ?_
  refine T_seq ?_
  refine T_region ?_
  refine TL_pure rfl rfl rfl rfl (op_assign rfl) ?_
  refine TL_nil ?_
  refine T_block ?_
  refine T_keepH [0, 1, 5] [] rfl rfl rfl rfl (by rw [hF]; rfl) ?_
  refine T_loop ?_
  obtain ⟨u0, hl0, hm⟩ := bindS hm
  refine TR_iter2 (m_laws_heldPointS_L0 p0) (fun (s0 : Int × Int) => ⟨[(0, .sl 2 (List.map a_Point p0)), (1, .int .i64 s0.1), (5, .int .i64 s0.2)], []⟩) (fun u0 => match u0 with | .inl u0 => .exit 0 | .inr u0 => .ret) (fun u0 => match u0 with | .inl u0 => ⟨[(1, .int .i64 u0)], []⟩ | .inr u0 => ⟨[(4, .int .i64 u0)], []⟩) (fun u0 => m_laws_heldPointS_A0 u0 = some out) hl0 hm (fun u0 hm => ?_) (fun hx0 s0 c0 hm hc0 => ?_)
  · rcases u0 with u0 | u0
    · unfold m_laws_heldPointS_A0 at hm
      refine T_seq ?_
      refine T_region ?_
      refine TL_pure rfl rfl rfl rfl (op_move rfl) ?_
      refine TL_pure rfl rfl rfl rfl (op_assign rfl) ?_
      refine TL_nil ?_
      refine T_keepH [4] [] rfl rfl rfl rfl (by rw [hF]; rfl) ?_
      refine T_ret ?_
      obtain rfl := someI hm
      refine ⟨[_], [], ⟨rfl, trivial⟩, ?_, rfl, rfl, rfl, rfl⟩
      rfl
    · unfold m_laws_heldPointS_A0 at hm
      obtain rfl := someI hm
      refine ⟨[_], [], ⟨rfl, trivial⟩, ?_, rfl, rfl, rfl, rfl⟩
      rfl
  · unfold m_laws_heldPointS_L0 at hm
    refine T_seq ?_
    refine T_seq ?_
    refine T_region ?_
    refine TL_pure rfl rfl rfl rfl (op_move rfl) ?_
    refine TL_pure rfl rfl rfl rfl (op_move rfl) ?_
    refine TL_pure rfl rfl rfl rfl (op_lenT Try.underlying67 rfl (List.length_map _)) ?_
    refine TL_fact (fun _ _ _ hr => RelP.slLen (i := 7) rfl hr) (fun hlen8 => ?_)
    rw [List.length_map] at hlen8
    refine TL_pure rfl rfl rfl rfl (op_lss rfl rfl) ?_
    refine TL_nil ?_
    refine T_cond rfl (fun hq => ?_) (fun hq => ?_)
    · replace hm := condT hq hm
      refine T_skip ?_
      refine T_seq ?_
      refine T_block ?_
      refine T_seq ?_
      refine T_seq ?_
      refine T_region ?_
      refine TL_pure rfl rfl rfl rfl (op_move rfl) ?_
      refine TL_pure rfl rfl rfl rfl (op_move rfl) ?_
      obtain ⟨x14, hx14, hm⟩ := bindS hm
      refine TL_pure rfl rfl rfl rfl (op_indexT el67 rfl rfl hx14 rfl) ?_
      refine TL_pure rfl rfl rfl rfl (op_fieldAddrC (n := 1) fa81_0 rfl rfl rfl) ?_
      refine TL_pure rfl rfl rfl rfl (op_load_one ag2 rfl rfl) ?_
      refine TL_pure rfl rfl rfl rfl (op_move rfl) ?_
      refine TL_pure rfl rfl rfl rfl (op_neq rfl rfl) ?_
      refine TL_nil ?_
      refine T_cond rfl (fun hq => ?_) (fun hq => ?_)
      · replace hm := condT hq hm
        refine T_seq ?_
        refine T_region ?_
        refine TL_pure rfl rfl rfl rfl (op_assign rfl) ?_
        refine TL_nil ?_
        refine T_keepH [4] [] rfl rfl rfl rfl (by rw [hF]; rfl) ?_
        refine T_ret ?_
        obtain rfl := someI hm
        have hn := CtlOK_out hc0
        exact hx0 (.inr (-1 : Int)) hn
      · replace hm := condF hq hm
        refine T_skip ?_
        refine T_seq ?_
        refine T_region ?_
        refine TL_pure rfl rfl rfl rfl (op_move rfl) ?_
        refine TL_pure rfl rfl rfl rfl (op_addW rfl rfl) ?_
        refine TL_pure rfl rfl rfl rfl (op_assign rfl) ?_
        refine TL_nil ?_
        refine T_seq ?_
        refine T_region ?_
        refine TL_pure rfl rfl rfl rfl (op_move rfl) ?_
        refine TL_pure rfl rfl rfl rfl (op_move rfl) ?_
        refine TL_pure rfl rfl rfl rfl (op_indexT el67 rfl rfl hx14 rfl) ?_
        refine TL_pure rfl rfl rfl rfl (op_fieldAddr fa81_1 rfl rfl) ?_
        refine TL_pure rfl rfl rfl rfl (op_load_one ag66 rfl rfl) ?_
        refine TL_pure rfl rfl rfl rfl (op_move rfl) ?_
        obtain ⟨r27, hr27, hm⟩ := bindS hm
        refine TL_callF (c_laws_heldTermS x14.Facts (w64 (s0.1 + (1 : Int))) r27 hr27) Try.call98 rfl rfl rfl rfl rfl ?_
        refine TL_pure rfl rfl rfl rfl (op_assign rfl) ?_
        refine TL_nil ?_
        refine T_seq ?_
        refine T_region ?_
        refine TL_pure rfl rfl rfl rfl (op_move rfl) ?_
        refine TL_pure rfl rfl rfl rfl (op_lss rfl rfl) ?_
        refine TL_nil ?_
        refine T_cond rfl (fun hq => ?_) (fun hq => ?_)
        · replace hm := condT hq hm
          refine T_seq ?_
          refine T_region ?_
          refine TL_pure rfl rfl rfl rfl (op_assign rfl) ?_
          refine TL_nil ?_
          refine T_keepH [4] [] rfl rfl rfl rfl (by rw [hF]; rfl) ?_
          refine T_ret ?_
          obtain rfl := someI hm
          have hn := CtlOK_out hc0
          exact hx0 (.inr (-1 : Int)) hn
        · replace hm := condF hq hm
          refine T_skip ?_
          refine T_region ?_
          refine TL_pure rfl rfl rfl rfl (op_move rfl) ?_
          refine TL_pure rfl rfl rfl rfl (op_addW rfl rfl) ?_
          refine TL_pure rfl rfl rfl rfl (op_assign rfl) ?_
          refine TL_nil ?_
          refine TR_keepH [0, 1, 5] [] rfl rfl rfl rfl (by rw [hF]; rfl) ?_
          obtain rfl := someI hm
          have hn := CtlOK_next hc0
          exact hn _ rfl
    · replace hm := condF hq hm
      refine T_keepH [1] [] rfl rfl rfl rfl (by rw [hF]; rfl) ?_
      refine T_exit ?_
      obtain rfl := someI hm
      have hn := CtlOK_out hc0
      exact hx0 (.inl s0.1) hn
theorem c_laws_heldAnnotated (p0 : Annotated) (p1 : Int) (out : Int) (hm : m_laws_heldAnnotated p0 p1 = some out) : ACall Try.prog 47 [.agg [.sl 2 (List.map a_Term p0.Pre), .sl 2 (List.map a_Term p0.Post), .sl 2 (List.map a_Instr p0.Code), .sl 2 (List.map a_Point p0.Points)], .int .i64 p1] [] (.int .i64 out) [] := by
  refine ACall.intro Try.func47 rfl Try.ntmps47 rfl (fun F hF => ?_)
  unfold m_laws_heldAnnotated at hm
  refine T_seq ?_
  refine T_region ?_
  refine TL_box 11 rfl rfl rfl rfl rfl rfl rfl ?_
  refine TL_pure rfl rfl rfl rfl (op_assign rfl) ?_
  refine TL_nil ?_
  refine T_seq ?_
  refine T_region ?_
  refine TL_pure rfl rfl rfl rfl (op_fieldAddr fa69_0 rfl rfl) ?_
  refine TL_pure rfl rfl rfl rfl (op_load_one ag66 rfl rfl) ?_
  refine TL_pure rfl rfl rfl rfl (op_move rfl) ?_
  obtain ⟨r8, hr8, hm⟩ := bindS hm
  refine TL_callF (c_laws_heldTermS p0.Pre p1 r8 hr8) Try.call98 rfl rfl rfl rfl rfl ?_
  refine TL_pure rfl rfl rfl rfl (op_assign rfl) ?_
  refine TL_nil ?_
  refine T_seq ?_
  refine T_seq ?_
  refine T_region ?_
  refine TL_pure rfl rfl rfl rfl (op_move rfl) ?_
  refine TL_pure rfl rfl rfl rfl (op_lss rfl rfl) ?_
  refine TL_nil ?_
  refine T_cond rfl (fun hq => ?_) (fun hq => ?_)
  · replace hm := condT hq hm
    refine T_seq ?_
    refine T_region ?_
    refine TL_pure rfl rfl rfl rfl (op_assign rfl) ?_
    refine TL_nil ?_
    refine T_keepH [4] [] rfl rfl rfl rfl (by rw [hF]; rfl) ?_
    refine T_ret ?_
    obtain rfl := someI hm
    refine ⟨[_], [], ⟨rfl, trivial⟩, ?_, rfl, rfl, rfl, rfl⟩
    rfl
  · replace hm := condF hq hm
    refine T_skip ?_
    refine T_seq ?_
    refine T_region ?_
    refine TL_pure rfl rfl rfl rfl (op_fieldAddr fa69_1 rfl rfl) ?_
    refine TL_pure rfl rfl rfl rfl (op_load_one ag66 rfl rfl) ?_
    refine TL_pure rfl rfl rfl rfl (op_move rfl) ?_
    obtain ⟨r14, hr14, hm⟩ := bindS hm
    refine TL_callF (c_laws_heldTermS p0.Post r8 r14 hr14) Try.call98 rfl rfl rfl rfl rfl ?_
    refine TL_pure rfl rfl rfl rfl (op_assign rfl) ?_
    refine TL_nil ?_
    refine T_seq ?_
    refine T_seq ?_
    refine T_region ?_
    refine TL_pure rfl rfl rfl rfl (op_move rfl) ?_
    refine TL_pure rfl rfl rfl rfl (op_lss rfl rfl) ?_
    refine TL_nil ?_
    refine T_cond rfl (fun hq => ?_) (fun hq => ?_)
    · replace hm := condT hq hm
      refine T_seq ?_
      refine T_region ?_
      refine TL_pure rfl rfl rfl rfl (op_assign rfl) ?_
      refine TL_nil ?_
      refine T_keepH [4] [] rfl rfl rfl rfl (by rw [hF]; rfl) ?_
      refine T_ret ?_
      obtain rfl := someI hm
      refine ⟨[_], [], ⟨rfl, trivial⟩, ?_, rfl, rfl, rfl, rfl⟩
      rfl
    · replace hm := condF hq hm
      refine T_skip ?_
      refine T_seq ?_
      refine T_region ?_
      refine TL_pure rfl rfl rfl rfl (op_fieldAddr fa69_2 rfl rfl) ?_
      refine TL_pure rfl rfl rfl rfl (op_load_one ag24 rfl rfl) ?_
      refine TL_pure rfl rfl rfl rfl (op_move rfl) ?_
      obtain ⟨r20, hr20, hm⟩ := bindS hm
      refine TL_callF (c_laws_heldInstrS p0.Code r14 r20 hr20) Try.call99 rfl rfl rfl rfl rfl ?_
      refine TL_pure rfl rfl rfl rfl (op_assign rfl) ?_
      refine TL_nil ?_
      refine T_seq ?_
      refine T_seq ?_
      refine T_region ?_
      refine TL_pure rfl rfl rfl rfl (op_move rfl) ?_
      refine TL_pure rfl rfl rfl rfl (op_lss rfl rfl) ?_
      refine TL_nil ?_
      refine T_cond rfl (fun hq => ?_) (fun hq => ?_)
      · replace hm := condT hq hm
        refine T_seq ?_
        refine T_region ?_
        refine TL_pure rfl rfl rfl rfl (op_assign rfl) ?_
        refine TL_nil ?_
        refine T_keepH [4] [] rfl rfl rfl rfl (by rw [hF]; rfl) ?_
        refine T_ret ?_
        obtain rfl := someI hm
        refine ⟨[_], [], ⟨rfl, trivial⟩, ?_, rfl, rfl, rfl, rfl⟩
        rfl
      · replace hm := condF hq hm
        refine T_skip ?_
        refine T_seq ?_
        refine T_region ?_
        refine TL_pure rfl rfl rfl rfl (op_fieldAddr fa69_3 rfl rfl) ?_
        refine TL_pure rfl rfl rfl rfl (op_load_one ag67 rfl rfl) ?_
        refine TL_pure rfl rfl rfl rfl (op_move rfl) ?_
        obtain ⟨r26, hr26, hm⟩ := bindS hm
        refine TL_callF (c_laws_heldPointS p0.Points r20 r26 hr26) Try.call100 rfl rfl rfl rfl rfl ?_
        refine TL_pure rfl rfl rfl rfl (op_assign rfl) ?_
        refine TL_nil ?_
        refine T_seq ?_
        refine T_seq ?_
        refine T_region ?_
        refine TL_pure rfl rfl rfl rfl (op_move rfl) ?_
        refine TL_pure rfl rfl rfl rfl (op_lss rfl rfl) ?_
        refine TL_nil ?_
        refine T_cond rfl (fun hq => ?_) (fun hq => ?_)
        · replace hm := condT hq hm
          refine T_seq ?_
          refine T_region ?_
          refine TL_pure rfl rfl rfl rfl (op_assign rfl) ?_
          refine TL_nil ?_
          refine T_keepH [4] [] rfl rfl rfl rfl (by rw [hF]; rfl) ?_
          refine T_ret ?_
          obtain rfl := someI hm
          refine ⟨[_], [], ⟨rfl, trivial⟩, ?_, rfl, rfl, rfl, rfl⟩
          rfl
        · replace hm := condF hq hm
          refine T_skip ?_
          refine T_seq ?_
          refine T_region ?_
          refine TL_pure rfl rfl rfl rfl (op_move rfl) ?_
          refine TL_pure rfl rfl rfl rfl (op_assign rfl) ?_
          refine TL_nil ?_
          refine T_keepH [4] [] rfl rfl rfl rfl (by rw [hF]; rfl) ?_
          refine T_ret ?_
          obtain rfl := someI hm
          refine ⟨[_], [], ⟨rfl, trivial⟩, ?_, rfl, rfl, rfl, rfl⟩
          rfl
end Go.Mod
