import Derived.Test.YtmbbpabjdalfaaaGg
namespace Go.Mod
open Go Go.AM Go.Proofs
set_option linter.unusedVariables false
set_option linter.unusedSimpArgs false
set_option maxRecDepth 100000
set_option maxHeartbeats 8000000
theorem c_impl_LiftProof (p0 : Sequent) (p1 : List Node) (p2 : List Term) (out : Sequent × (List Node) × Bool) (hm : m_impl_LiftProof p0 p1 p2 = some out) : ACall Try.prog 40 [.agg [.sl 2 (List.map a_Term p0.Facts), .int .i64 p0.Goal.Const, .sl 1 (List.map a_i64 p0.Goal.Coeffs)], .sl 5 (List.map a_Node p1), .sl 2 (List.map a_Term p2)] [] (.tup [.agg [.sl 2 (List.map a_Term out.1.Facts), .int .i64 out.1.Goal.Const, .sl 1 (List.map a_i64 out.1.Goal.Coeffs)], .sl 5 (List.map a_Node out.2.1), .bool out.2.2]) [] := by
  refine ACall.intro Try.func40 rfl Try.ntmps40 rfl (fun F hF => ?_)
  unfold m_impl_LiftProof at hm
  refine T_seq ?_
  refine T_region ?_
  refine TL_box 11 rfl rfl rfl rfl rfl rfl rfl ?_
  refine TL_alloc 12 z42 rfl rfl rfl rfl rfl rfl rfl ?_
  refine TL_pure rfl rfl rfl rfl (op_assign rfl) ?_
  refine TL_pure rfl rfl rfl rfl (op_assign rfl) ?_
  refine TL_nil ?_
  refine T_seq ?_
  refine T_seq ?_
  refine T_region ?_
  refine TL_pure rfl rfl rfl rfl (op_load_agg ag42 sz42 rfl rfl rfl) ?_
  refine TL_pure rfl rfl rfl rfl (op_move rfl) ?_
  obtain ⟨r14, hr14, hm⟩ := bindS hm
  refine TL_callF (c_impl_CheckProof p0 p1 r14 hr14) Try.call28 rfl rfl rfl rfl rfl ?_
  refine TL_pure rfl rfl rfl rfl (op_not rfl) ?_
  refine TL_pure rfl rfl rfl rfl (op_move rfl) ?_
  refine TL_join 4 (fun _ : Unit => ⟨[(1, .sl 5 (List.map a_Node p1)), (2, .sl 2 (List.map a_Term p2)), (3, .ptr 11 0 0), (6, .ptr 12 0 0), (20, .bool ((!r14) || (decide ((14 : Int) < (p2.length : Int)))))], [(11, .box [.sl 2 (List.map a_Term p0.Facts), .int .i64 p0.Goal.Const, .sl 1 (List.map a_i64 p0.Goal.Coeffs)]), (12, .box [.snil, .int .i64 (0 : Int), .snil])]⟩) (fun _ => True) (fun _ _ => ?_) (fun hjj => ?_)
  · refine TL_nil ?_
    refine T_cond rfl (fun hq => ?_) (fun hq => ?_)
    · replace hm := condT hq hm
      refine T_seq ?_
      refine T_region ?_
      refine TL_pure rfl rfl rfl rfl (op_buildP pl42 z42 rfl rfl rfl rfl rfl) ?_
      refine TL_store_box sz42 rfl rfl rfl rfl rfl rfl rfl rfl rfl ?_
      refine TL_pure rfl rfl rfl rfl (op_assign rfl) ?_
      refine TL_pure rfl rfl rfl rfl (op_assign rfl) ?_
      refine TL_nil ?_
      refine T_keepH [6, 7, 8] [12] rfl rfl rfl rfl (by rw [hF]; rfl) ?_
      refine T_nilAt 7 (x' := .sl 5 (List.map a_Node ([] : List Node))) rfl (.inr ⟨_, rfl⟩) rfl ?_
      refine T_nilBox 12 (cs' := [.sl 2 (List.map a_Term ([] : List Term)), .int .i64 (0 : Int), .sl 1 (List.map a_i64 ([] : List Int))]) rfl (⟨_, _, rfl, .inr ⟨_, rfl⟩, ⟨_, _, rfl, rfl, ⟨_, _, rfl, .inr ⟨_, rfl⟩, rfl⟩⟩⟩) rfl ?_
      refine T_ret ?_
      obtain rfl := someI hm
      refine ⟨[_, _, _], [], ⟨⟨_, _, rfl, rfl, .inr ⟨ag42, _, _, sz42, rfl, rfl⟩⟩, rfl, rfl, trivial⟩, ?_, rfl, rfl, rfl, rfl⟩
      rfl
    · replace hm := condF hq hm
      refine T_skip ?_
      refine T_seq ?_
      refine T_region ?_
      refine TL_pure rfl rfl rfl rfl (op_fieldAddr fa42_0 rfl rfl) ?_
      refine TL_pure rfl rfl rfl rfl (op_load_one ag39 rfl rfl) ?_
      refine TL_pure rfl rfl rfl rfl (op_lenT Try.underlying39 rfl (List.length_map _)) ?_
      refine TL_fact (fun _ _ _ hr => RelP.slLen (i := 23) rfl hr) (fun hlen24 => ?_)
      rw [List.length_map] at hlen24
      refine TL_pure rfl rfl rfl rfl (op_move rfl) ?_
      refine TL_pure rfl rfl rfl rfl (op_lenT Try.underlying39 rfl (List.length_map _)) ?_
      refine TL_fact (fun _ _ _ hr => RelP.slLen (i := 25) rfl hr) (fun hlen26 => ?_)
      rw [List.length_map] at hlen26
      refine TL_alloc 13 z3 rfl rfl rfl rfl rfl rfl rfl ?_
      refine TL_alloc 14 z3 rfl rfl rfl rfl rfl rfl rfl ?_
      refine TL_store_box sz3 rfl rfl rfl rfl rfl rfl rfl rfl rfl ?_
      refine TL_store_box sz3 rfl rfl rfl rfl rfl rfl rfl rfl rfl ?_
      refine TL_nil ?_
      refine T_join (fun (j0 : (List Term) × Int × (List Int)) => ⟨[(1, .sl 5 (List.map a_Node p1)), (6, .ptr 12 0 0), (9, .ptr 13 0 0), (10, .ptr 14 0 0), (11, .ptr 895 0 0)], [(12, .box [.snil, .int .i64 (0 : Int), .snil]), (13, .box [.int .i64 (p0.Facts.length : Int)]), (14, .box [.int .i64 (p2.length : Int)]), (255, .arr ⟨false, true⟩ 2 40 (List.map a_Term j0.1)), (735, .arr ⟨false, true⟩ 1 2 (List.map a_i64 j0.2.2)), (895, .box [.ow 255, .int .i64 j0.2.1, .ow 735])]⟩) (fun j0 => m_impl_LiftProof_J0 p0 p1 p2 j0 = some out) (fun j0 hm => ?_) (fun hj0 => ?_)
      · unfold m_impl_LiftProof_J0 at hm
        refine T_seq ?_
        refine T_drawZ [9] mix (by kernel_rfl) rfl ?_
        obtain ⟨r41, hr41, hm⟩ := bindS hm
        obtain ⟨r42, hr42, hm⟩ := bindS hm
        refine TZ_pure 0 (by kernel_rfl) rfl rfl rfl rfl rfl (op_load_agg ag42 sz42 rfl rfl rfl) ?_
        refine TZ_pure 1 (by kernel_rfl) rfl rfl rfl rfl rfl (op_move rfl) ?_
        refine TZ_freezeB 14 (by rw [hF]; rfl) rfl rfl rfl rfl ?_
        refine TZ_pure 2 (by kernel_rfl) rfl rfl rfl rfl rfl (op_makeFunc rfl rfl) ?_
        refine TZ_freezeB 13 (by rw [hF]; rfl) rfl rfl rfl rfl ?_
        refine TZ_pure 3 (by kernel_rfl) rfl rfl rfl rfl rfl (op_makeFunc rfl rfl) ?_
        refine TZ_one 4 (by kernel_rfl) rfl ?_
        refine TL_callT (c_impl_movedNodes_fLiftProof_1_LiftProof_2 p1 (p2.length : Int) (p0.Facts.length : Int) (p2.length : Int) r41 hr41) Try.call84 rfl rfl rfl rfl rfl ?_
        refine TL_nil ?_
        refine TZ_one 5 (by kernel_rfl) rfl ?_
        refine TL_freeze 255 (by rw [hF]; rfl) rfl rfl rfl ?_
        refine TL_freeze 735 (by rw [hF]; rfl) rfl rfl rfl ?_
        refine TL_callT (c_impl_accepted (Sequent.mk j0.1 (Term.mk j0.2.1 j0.2.2)) r41 r42 hr42) Try.call90 rfl rfl rfl rfl rfl ?_
        refine TL_nil ?_
        refine TZ_pure 6 (by kernel_rfl) rfl rfl rfl rfl rfl (op_extract rfl rfl) ?_
        refine TZ_pure 7 (by kernel_rfl) rfl rfl rfl rfl rfl (op_extract rfl rfl) ?_
        refine TZ_pure 8 (by kernel_rfl) rfl rfl rfl rfl rfl (op_extract rfl rfl) ?_
        refine TZ_one 9 (by kernel_rfl) rfl ?_
        refine TL_store_box sz42 rfl rfl rfl rfl rfl rfl rfl rfl rfl ?_
        refine TL_nil ?_
        refine TZ_pure 10 (by kernel_rfl) rfl rfl rfl rfl rfl (op_assign rfl) ?_
        refine TZ_pure 11 (by kernel_rfl) rfl rfl rfl rfl rfl (op_assign rfl) ?_
        refine TZ_done (by kernel_rfl) ?_
        refine T_keepH [6, 7, 8] [12] rfl rfl rfl rfl (by rw [hF]; rfl) ?_
        refine T_ret ?_
        obtain rfl := someI hm
        refine ⟨[_, _, _], [], ⟨⟨_, _, rfl, rfl, .inr ⟨ag42, _, _, sz42, rfl, rfl⟩⟩, rfl, rfl, trivial⟩, ?_, rfl, rfl, rfl, rfl⟩
        rfl
      · refine T_drawZ [5, 11] mix (by kernel_rfl) rfl ?_
        obtain ⟨r29, hr29, hm⟩ := bindS hm
        obtain ⟨r31, hr31, hm⟩ := bindS hm
        obtain ⟨q32, hq32, hm⟩ := bindS hm
        obtain ⟨r35, hr35, hm⟩ := bindS hm
        refine TZ_pure 0 (by kernel_rfl) rfl rfl rfl rfl rfl (op_fieldAddr fa42_0 rfl rfl) ?_
        refine TZ_pure 3 (by kernel_rfl) rfl rfl rfl rfl rfl (op_move rfl) ?_
        refine TZ_pure 6 (by kernel_rfl) rfl rfl rfl rfl rfl (op_fieldAddr fa42_1 rfl rfl) ?_
        refine TZ_cut 3 [true, true, true, true, true, true, true, true, true, false, false, false] ⟨[(1, .sl 5 (List.map a_Node p1)), (2, .sl 2 (List.map a_Term p2)), (3, .ptr 11 0 0), (6, .ptr 12 0 0), (9, .ptr 13 0 0), (10, .ptr 14 0 0), (20, .bool ((!r14) || (decide ((14 : Int) < (p2.length : Int))))), (22, .ptr 11 0 0), (23, .sl 2 (List.map a_Term p0.Facts)), (24, .int .i64 (p0.Facts.length : Int)), (25, .sl 2 (List.map a_Term p2)), (26, .int .i64 (p2.length : Int)), (27, .ptr 11 0 0), (28, .sl 2 (List.map a_Term p0.Facts)), (29, .junk), (30, .sl 2 (List.map a_Term p2)), (31, .junk), (32, .ow 1215), (33, .ptr 11 0 1), (34, .agg [.int .i64 p0.Goal.Const, .sl 1 (List.map a_i64 p0.Goal.Coeffs)]), (35, .agg [.int .i64 r35.Const, .ow 1695])], [(11, .box [.sl 2 (List.map a_Term p0.Facts), .int .i64 p0.Goal.Const, .sl 1 (List.map a_i64 p0.Goal.Coeffs)]), (12, .box [.snil, .int .i64 (0 : Int), .snil]), (13, .box [.int .i64 (p0.Facts.length : Int)]), (14, .box [.int .i64 (p2.length : Int)]), (1215, .arr ⟨false, true⟩ 2 40 (List.map a_Term (r29 ++ r31))), (1695, .arr ⟨false, true⟩ 1 2 (List.map a_i64 r35.Coeffs))]⟩ ?_ (fun hS974_0 => ?_)
        · refine TZ_pure 9 (by kernel_rfl) rfl rfl rfl rfl rfl (op_buildP pl42 z42 rfl rfl rfl rfl rfl) ?_
          refine TZ_one 10 (by kernel_rfl) rfl ?_
          refine TL_alloc 1855 z42 rfl rfl rfl rfl rfl rfl rfl ?_
          refine TL_nil ?_
          refine TZ_one 11 (by kernel_rfl) rfl ?_
          refine TL_store_box sz42 rfl rfl rfl rfl rfl rfl rfl rfl rfl ?_
          refine TL_nil ?_
          refine TZ_done (by kernel_rfl) ?_
          refine T_keepH [1, 6, 9, 10, 11] [12, 13, 14, 1215, 1695, 1855] rfl rfl rfl rfl (by rw [hF]; rfl) ?_
          refine T_ren [(12, 12), (13, 13), (14, 14), (1215, 255), (1695, 735), (1855, 895)] rfl rfl rfl (by rw [hF]; rfl) ?_
          exact hj0 ((r29 ++ r31), r35.Const, r35.Coeffs) hm
        refine TZ_cut 3 [true, true, true, true, true, true, true, true, false, false, true, false] ⟨[(1, .sl 5 (List.map a_Node p1)), (2, .sl 2 (List.map a_Term p2)), (3, .ptr 11 0 0), (6, .ptr 12 0 0), (9, .ptr 13 0 0), (10, .ptr 14 0 0), (11, .ptr 1855 0 0), (20, .bool ((!r14) || (decide ((14 : Int) < (p2.length : Int))))), (22, .ptr 11 0 0), (23, .sl 2 (List.map a_Term p0.Facts)), (24, .int .i64 (p0.Facts.length : Int)), (25, .sl 2 (List.map a_Term p2)), (26, .int .i64 (p2.length : Int)), (27, .ptr 11 0 0), (28, .sl 2 (List.map a_Term p0.Facts)), (29, .junk), (30, .sl 2 (List.map a_Term p2)), (31, .junk), (32, .ow 1215), (33, .ptr 11 0 1), (34, .agg [.int .i64 p0.Goal.Const, .sl 1 (List.map a_i64 p0.Goal.Coeffs)])], [(11, .box [.sl 2 (List.map a_Term p0.Facts), .int .i64 p0.Goal.Const, .sl 1 (List.map a_i64 p0.Goal.Coeffs)]), (12, .box [.snil, .int .i64 (0 : Int), .snil]), (13, .box [.int .i64 (p0.Facts.length : Int)]), (14, .box [.int .i64 (p2.length : Int)]), (1215, .arr ⟨false, true⟩ 2 40 (List.map a_Term (r29 ++ r31))), (1855, .box [.snil, .int .i64 (0 : Int), .snil])]⟩ ?_ (fun hS974_1 => ?_)
        · refine TZ_one 8 (by kernel_rfl) rfl ?_
          refine TL_callO [(1000, 1695)] (c_impl_Term_own p0.Goal r35 hr35) Try.call89 rfl rfl rfl rfl rfl rfl rfl rfl rfl rfl rfl rfl rfl ?_
          refine TL_nil ?_
          refine TZ_pure 9 (by kernel_rfl) rfl rfl rfl rfl rfl (op_buildP pl42 z42 rfl rfl rfl rfl rfl) ?_
          refine TZ_one 11 (by kernel_rfl) rfl ?_
          refine TL_store_box sz42 rfl rfl rfl rfl rfl rfl rfl rfl rfl ?_
          refine TL_nil ?_
          refine TZ_done (by kernel_rfl) ?_
          refine T_keepH [1, 6, 9, 10, 11] [12, 13, 14, 1215, 1695, 1855] rfl rfl rfl rfl (by rw [hF]; rfl) ?_
          refine T_ren [(12, 12), (13, 13), (14, 14), (1215, 255), (1695, 735), (1855, 895)] rfl rfl rfl (by rw [hF]; rfl) ?_
          exact hj0 ((r29 ++ r31), r35.Const, r35.Coeffs) hm
        refine TZ_cut 5 [true, true, true, true, true, true, true, false, false, false, false, false] ⟨[(1, .sl 5 (List.map a_Node p1)), (2, .sl 2 (List.map a_Term p2)), (3, .ptr 11 0 0), (6, .ptr 12 0 0), (9, .ptr 13 0 0), (10, .ptr 14 0 0), (20, .bool ((!r14) || (decide ((14 : Int) < (p2.length : Int))))), (22, .ptr 11 0 0), (23, .sl 2 (List.map a_Term p0.Facts)), (24, .int .i64 (p0.Facts.length : Int)), (25, .sl 2 (List.map a_Term p2)), (26, .int .i64 (p2.length : Int)), (27, .ptr 11 0 0), (28, .sl 2 (List.map a_Term p0.Facts)), (29, .junk), (30, .sl 2 (List.map a_Term p2)), (31, .junk), (32, .ow 1215), (33, .ptr 11 0 1)], [(11, .box [.sl 2 (List.map a_Term p0.Facts), .int .i64 p0.Goal.Const, .sl 1 (List.map a_i64 p0.Goal.Coeffs)]), (12, .box [.snil, .int .i64 (0 : Int), .snil]), (13, .box [.int .i64 (p0.Facts.length : Int)]), (14, .box [.int .i64 (p2.length : Int)]), (1215, .arr ⟨false, true⟩ 2 40 (List.map a_Term (r29 ++ r31)))]⟩ ?_ (fun hS974_2 => ?_)
        · refine TZ_pure 7 (by kernel_rfl) rfl rfl rfl rfl rfl (op_load_agg ag40 sz40 rfl rfl rfl) ?_
          refine TZ_each [8, 10] (by kernel_rfl) rfl ?_
          refine ⟨?_, ?_⟩
          · refine ⟨_, rfl, ?_⟩
            refine TL_callO [(1000, 1695)] (c_impl_Term_own p0.Goal r35 hr35) Try.call89 rfl rfl rfl rfl rfl rfl rfl rfl rfl rfl rfl rfl rfl ?_
            refine TL_nil ?_
            refine TZ_keepH [1, 2, 3, 6, 9, 10, 20, 22, 23, 24, 25, 26, 27, 28, 29, 30, 31, 32, 33, 34, 35] [11, 12, 13, 14, 1215, 1695] rfl rfl rfl rfl (by rw [hF]; rfl) ?_
            exact hS974_0
          · refine ⟨_, rfl, ?_⟩
            refine TL_alloc 1855 z42 rfl rfl rfl rfl rfl rfl rfl ?_
            refine TL_nil ?_
            refine TZ_keepH [1, 2, 3, 6, 9, 10, 11, 20, 22, 23, 24, 25, 26, 27, 28, 29, 30, 31, 32, 33, 34] [11, 12, 13, 14, 1215, 1855] rfl rfl rfl rfl (by rw [hF]; rfl) ?_
            exact hS974_1
        refine TZ_cut 4 [true, true, true, true, true, true, true, true, false, false, false, false] ⟨[(1, .sl 5 (List.map a_Node p1)), (2, .sl 2 (List.map a_Term p2)), (3, .ptr 11 0 0), (6, .ptr 12 0 0), (9, .ptr 13 0 0), (10, .ptr 14 0 0), (20, .bool ((!r14) || (decide ((14 : Int) < (p2.length : Int))))), (22, .ptr 11 0 0), (23, .sl 2 (List.map a_Term p0.Facts)), (24, .int .i64 (p0.Facts.length : Int)), (25, .sl 2 (List.map a_Term p2)), (26, .int .i64 (p2.length : Int)), (27, .ptr 11 0 0), (28, .sl 2 (List.map a_Term p0.Facts)), (29, .junk), (30, .sl 2 (List.map a_Term p2)), (31, .junk), (32, .ow 1215), (33, .ptr 11 0 1), (34, .agg [.int .i64 p0.Goal.Const, .sl 1 (List.map a_i64 p0.Goal.Coeffs)])], [(11, .box [.sl 2 (List.map a_Term p0.Facts), .int .i64 p0.Goal.Const, .sl 1 (List.map a_i64 p0.Goal.Coeffs)]), (12, .box [.snil, .int .i64 (0 : Int), .snil]), (13, .box [.int .i64 (p0.Facts.length : Int)]), (14, .box [.int .i64 (p2.length : Int)]), (1215, .arr ⟨false, true⟩ 2 40 (List.map a_Term (r29 ++ r31)))]⟩ ?_ (fun hS974_3 => ?_)
        · refine TZ_each [8, 10] (by kernel_rfl) rfl ?_
          refine ⟨?_, ?_⟩
          · refine ⟨_, rfl, ?_⟩
            refine TL_callO [(1000, 1695)] (c_impl_Term_own p0.Goal r35 hr35) Try.call89 rfl rfl rfl rfl rfl rfl rfl rfl rfl rfl rfl rfl rfl ?_
            refine TL_nil ?_
            refine TZ_keepH [1, 2, 3, 6, 9, 10, 20, 22, 23, 24, 25, 26, 27, 28, 29, 30, 31, 32, 33, 34, 35] [11, 12, 13, 14, 1215, 1695] rfl rfl rfl rfl (by rw [hF]; rfl) ?_
            exact hS974_0
          · refine ⟨_, rfl, ?_⟩
            refine TL_alloc 1855 z42 rfl rfl rfl rfl rfl rfl rfl ?_
            refine TL_nil ?_
            refine TZ_keepH [1, 2, 3, 6, 9, 10, 11, 20, 22, 23, 24, 25, 26, 27, 28, 29, 30, 31, 32, 33, 34] [11, 12, 13, 14, 1215, 1855] rfl rfl rfl rfl (by rw [hF]; rfl) ?_
            exact hS974_1
        refine TZ_cut 4 [true, true, true, true, true, false, true, true, false, false, true, false] ⟨[(1, .sl 5 (List.map a_Node p1)), (2, .sl 2 (List.map a_Term p2)), (3, .ptr 11 0 0), (6, .ptr 12 0 0), (9, .ptr 13 0 0), (10, .ptr 14 0 0), (11, .ptr 1855 0 0), (20, .bool ((!r14) || (decide ((14 : Int) < (p2.length : Int))))), (22, .ptr 11 0 0), (23, .sl 2 (List.map a_Term p0.Facts)), (24, .int .i64 (p0.Facts.length : Int)), (25, .sl 2 (List.map a_Term p2)), (26, .int .i64 (p2.length : Int)), (27, .ptr 11 0 0), (28, .sl 2 (List.map a_Term p0.Facts)), (29, .ow 1215), (30, .sl 2 (List.map a_Term p2)), (31, .ow 1375), (33, .ptr 11 0 1), (34, .agg [.int .i64 p0.Goal.Const, .sl 1 (List.map a_i64 p0.Goal.Coeffs)])], [(11, .box [.sl 2 (List.map a_Term p0.Facts), .int .i64 p0.Goal.Const, .sl 1 (List.map a_i64 p0.Goal.Coeffs)]), (12, .box [.snil, .int .i64 (0 : Int), .snil]), (13, .box [.int .i64 (p0.Facts.length : Int)]), (14, .box [.int .i64 (p2.length : Int)]), (1215, .arr ⟨false, true⟩ 2 40 (List.map a_Term r29)), (1375, .arr ⟨false, true⟩ 2 40 (List.map a_Term r31)), (1855, .box [.snil, .int .i64 (0 : Int), .snil])]⟩ ?_ (fun hS974_4 => ?_)
        · refine TZ_one 5 (by kernel_rfl) rfl ?_
          refine TL_appendDT (f := a_Term) (a := r29) (b := r31) el39 z40 rfl rfl rfl rfl rfl rfl rfl rfl (by rw [hF]; rfl) (capI_spec hq32) rfl rfl rfl rfl rfl ?_
          refine TL_nil ?_
          refine TZ_one 8 (by kernel_rfl) rfl ?_
          refine TL_callO [(1000, 1695)] (c_impl_Term_own p0.Goal r35 hr35) Try.call89 rfl rfl rfl rfl rfl rfl rfl rfl rfl rfl rfl rfl rfl ?_
          refine TL_nil ?_
          refine TZ_pure 9 (by kernel_rfl) rfl rfl rfl rfl rfl (op_buildP pl42 z42 rfl rfl rfl rfl rfl) ?_
          refine TZ_one 11 (by kernel_rfl) rfl ?_
          refine TL_store_box sz42 rfl rfl rfl rfl rfl rfl rfl rfl rfl ?_
          refine TL_nil ?_
          refine TZ_done (by kernel_rfl) ?_
          refine T_keepH [1, 6, 9, 10, 11] [12, 13, 14, 1215, 1695, 1855] rfl rfl rfl rfl (by rw [hF]; rfl) ?_
          refine T_ren [(12, 12), (13, 13), (14, 14), (1215, 255), (1695, 735), (1855, 895)] rfl rfl rfl (by rw [hF]; rfl) ?_
          exact hj0 ((r29 ++ r31), r35.Const, r35.Coeffs) hm
        refine TZ_cut 5 [true, true, true, true, true, false, true, true, false, false, false, false] ⟨[(1, .sl 5 (List.map a_Node p1)), (2, .sl 2 (List.map a_Term p2)), (3, .ptr 11 0 0), (6, .ptr 12 0 0), (9, .ptr 13 0 0), (10, .ptr 14 0 0), (20, .bool ((!r14) || (decide ((14 : Int) < (p2.length : Int))))), (22, .ptr 11 0 0), (23, .sl 2 (List.map a_Term p0.Facts)), (24, .int .i64 (p0.Facts.length : Int)), (25, .sl 2 (List.map a_Term p2)), (26, .int .i64 (p2.length : Int)), (27, .ptr 11 0 0), (28, .sl 2 (List.map a_Term p0.Facts)), (29, .ow 1215), (30, .sl 2 (List.map a_Term p2)), (31, .ow 1375), (33, .ptr 11 0 1), (34, .agg [.int .i64 p0.Goal.Const, .sl 1 (List.map a_i64 p0.Goal.Coeffs)])], [(11, .box [.sl 2 (List.map a_Term p0.Facts), .int .i64 p0.Goal.Const, .sl 1 (List.map a_i64 p0.Goal.Coeffs)]), (12, .box [.snil, .int .i64 (0 : Int), .snil]), (13, .box [.int .i64 (p0.Facts.length : Int)]), (14, .box [.int .i64 (p2.length : Int)]), (1215, .arr ⟨false, true⟩ 2 40 (List.map a_Term r29)), (1375, .arr ⟨false, true⟩ 2 40 (List.map a_Term r31))]⟩ ?_ (fun hS974_5 => ?_)
        · refine TZ_each [5, 10] (by kernel_rfl) rfl ?_
          refine ⟨?_, ?_⟩
          · refine ⟨_, rfl, ?_⟩
            refine TL_appendDT (f := a_Term) (a := r29) (b := r31) el39 z40 rfl rfl rfl rfl rfl rfl rfl rfl (by rw [hF]; rfl) (capI_spec hq32) rfl rfl rfl rfl rfl ?_
            refine TL_nil ?_
            refine TZ_keepH [1, 2, 3, 6, 9, 10, 20, 22, 23, 24, 25, 26, 27, 28, 29, 30, 31, 32, 33, 34] [11, 12, 13, 14, 1215] rfl rfl rfl rfl (by rw [hF]; rfl) ?_
            exact hS974_3
          · refine ⟨_, rfl, ?_⟩
            refine TL_alloc 1855 z42 rfl rfl rfl rfl rfl rfl rfl ?_
            refine TL_nil ?_
            refine TZ_keepH [1, 2, 3, 6, 9, 10, 11, 20, 22, 23, 24, 25, 26, 27, 28, 29, 30, 31, 33, 34] [11, 12, 13, 14, 1215, 1375, 1855] rfl rfl rfl rfl (by rw [hF]; rfl) ?_
            exact hS974_4
        refine TZ_cut 4 [true, true, true, true, true, true, true, false, false, false, true, false] ⟨[(1, .sl 5 (List.map a_Node p1)), (2, .sl 2 (List.map a_Term p2)), (3, .ptr 11 0 0), (6, .ptr 12 0 0), (9, .ptr 13 0 0), (10, .ptr 14 0 0), (11, .ptr 1855 0 0), (20, .bool ((!r14) || (decide ((14 : Int) < (p2.length : Int))))), (22, .ptr 11 0 0), (23, .sl 2 (List.map a_Term p0.Facts)), (24, .int .i64 (p0.Facts.length : Int)), (25, .sl 2 (List.map a_Term p2)), (26, .int .i64 (p2.length : Int)), (27, .ptr 11 0 0), (28, .sl 2 (List.map a_Term p0.Facts)), (29, .junk), (30, .sl 2 (List.map a_Term p2)), (31, .junk), (32, .ow 1215), (33, .ptr 11 0 1)], [(11, .box [.sl 2 (List.map a_Term p0.Facts), .int .i64 p0.Goal.Const, .sl 1 (List.map a_i64 p0.Goal.Coeffs)]), (12, .box [.snil, .int .i64 (0 : Int), .snil]), (13, .box [.int .i64 (p0.Facts.length : Int)]), (14, .box [.int .i64 (p2.length : Int)]), (1215, .arr ⟨false, true⟩ 2 40 (List.map a_Term (r29 ++ r31))), (1855, .box [.snil, .int .i64 (0 : Int), .snil])]⟩ ?_ (fun hS974_6 => ?_)
        · refine TZ_pure 7 (by kernel_rfl) rfl rfl rfl rfl rfl (op_load_agg ag40 sz40 rfl rfl rfl) ?_
          refine TZ_one 8 (by kernel_rfl) rfl ?_
          refine TL_callO [(1000, 1695)] (c_impl_Term_own p0.Goal r35 hr35) Try.call89 rfl rfl rfl rfl rfl rfl rfl rfl rfl rfl rfl rfl rfl ?_
          refine TL_nil ?_
          refine TZ_pure 9 (by kernel_rfl) rfl rfl rfl rfl rfl (op_buildP pl42 z42 rfl rfl rfl rfl rfl) ?_
          refine TZ_one 11 (by kernel_rfl) rfl ?_
          refine TL_store_box sz42 rfl rfl rfl rfl rfl rfl rfl rfl rfl ?_
          refine TL_nil ?_
          refine TZ_done (by kernel_rfl) ?_
          refine T_keepH [1, 6, 9, 10, 11] [12, 13, 14, 1215, 1695, 1855] rfl rfl rfl rfl (by rw [hF]; rfl) ?_
          refine T_ren [(12, 12), (13, 13), (14, 14), (1215, 255), (1695, 735), (1855, 895)] rfl rfl rfl (by rw [hF]; rfl) ?_
          exact hj0 ((r29 ++ r31), r35.Const, r35.Coeffs) hm
        refine TZ_cut 5 [true, true, true, true, true, false, true, false, false, false, true, false] ⟨[(1, .sl 5 (List.map a_Node p1)), (2, .sl 2 (List.map a_Term p2)), (3, .ptr 11 0 0), (6, .ptr 12 0 0), (9, .ptr 13 0 0), (10, .ptr 14 0 0), (11, .ptr 1855 0 0), (20, .bool ((!r14) || (decide ((14 : Int) < (p2.length : Int))))), (22, .ptr 11 0 0), (23, .sl 2 (List.map a_Term p0.Facts)), (24, .int .i64 (p0.Facts.length : Int)), (25, .sl 2 (List.map a_Term p2)), (26, .int .i64 (p2.length : Int)), (27, .ptr 11 0 0), (28, .sl 2 (List.map a_Term p0.Facts)), (29, .ow 1215), (30, .sl 2 (List.map a_Term p2)), (31, .ow 1375), (33, .ptr 11 0 1)], [(11, .box [.sl 2 (List.map a_Term p0.Facts), .int .i64 p0.Goal.Const, .sl 1 (List.map a_i64 p0.Goal.Coeffs)]), (12, .box [.snil, .int .i64 (0 : Int), .snil]), (13, .box [.int .i64 (p0.Facts.length : Int)]), (14, .box [.int .i64 (p2.length : Int)]), (1215, .arr ⟨false, true⟩ 2 40 (List.map a_Term r29)), (1375, .arr ⟨false, true⟩ 2 40 (List.map a_Term r31)), (1855, .box [.snil, .int .i64 (0 : Int), .snil])]⟩ ?_ (fun hS974_7 => ?_)
        · refine TZ_each [5, 7] (by kernel_rfl) rfl ?_
          refine ⟨?_, ?_⟩
          · refine ⟨_, rfl, ?_⟩
            refine TL_appendDT (f := a_Term) (a := r29) (b := r31) el39 z40 rfl rfl rfl rfl rfl rfl rfl rfl (by rw [hF]; rfl) (capI_spec hq32) rfl rfl rfl rfl rfl ?_
            refine TL_nil ?_
            refine TZ_keepH [1, 2, 3, 6, 9, 10, 11, 20, 22, 23, 24, 25, 26, 27, 28, 29, 30, 31, 32, 33] [11, 12, 13, 14, 1215, 1855] rfl rfl rfl rfl (by rw [hF]; rfl) ?_
            exact hS974_6
          · refine ⟨_, rfl, ?_⟩
            refine TL_pure rfl rfl rfl rfl (op_load_agg ag40 sz40 rfl rfl rfl) ?_
            refine TL_nil ?_
            refine TZ_keepH [1, 2, 3, 6, 9, 10, 11, 20, 22, 23, 24, 25, 26, 27, 28, 29, 30, 31, 33, 34] [11, 12, 13, 14, 1215, 1375, 1855] rfl rfl rfl rfl (by rw [hF]; rfl) ?_
            exact hS974_4
        refine TZ_cut 6 [true, true, true, true, true, false, true, false, false, false, false, false] ⟨[(1, .sl 5 (List.map a_Node p1)), (2, .sl 2 (List.map a_Term p2)), (3, .ptr 11 0 0), (6, .ptr 12 0 0), (9, .ptr 13 0 0), (10, .ptr 14 0 0), (20, .bool ((!r14) || (decide ((14 : Int) < (p2.length : Int))))), (22, .ptr 11 0 0), (23, .sl 2 (List.map a_Term p0.Facts)), (24, .int .i64 (p0.Facts.length : Int)), (25, .sl 2 (List.map a_Term p2)), (26, .int .i64 (p2.length : Int)), (27, .ptr 11 0 0), (28, .sl 2 (List.map a_Term p0.Facts)), (29, .ow 1215), (30, .sl 2 (List.map a_Term p2)), (31, .ow 1375), (33, .ptr 11 0 1)], [(11, .box [.sl 2 (List.map a_Term p0.Facts), .int .i64 p0.Goal.Const, .sl 1 (List.map a_i64 p0.Goal.Coeffs)]), (12, .box [.snil, .int .i64 (0 : Int), .snil]), (13, .box [.int .i64 (p0.Facts.length : Int)]), (14, .box [.int .i64 (p2.length : Int)]), (1215, .arr ⟨false, true⟩ 2 40 (List.map a_Term r29)), (1375, .arr ⟨false, true⟩ 2 40 (List.map a_Term r31))]⟩ ?_ (fun hS974_8 => ?_)
        · refine TZ_each [5, 7, 10] (by kernel_rfl) rfl ?_
          refine ⟨?_, ?_, ?_⟩
          · refine ⟨_, rfl, ?_⟩
            refine TL_appendDT (f := a_Term) (a := r29) (b := r31) el39 z40 rfl rfl rfl rfl rfl rfl rfl rfl (by rw [hF]; rfl) (capI_spec hq32) rfl rfl rfl rfl rfl ?_
            refine TL_nil ?_
            refine TZ_keepH [1, 2, 3, 6, 9, 10, 20, 22, 23, 24, 25, 26, 27, 28, 29, 30, 31, 32, 33] [11, 12, 13, 14, 1215] rfl rfl rfl rfl (by rw [hF]; rfl) ?_
            exact hS974_2
          · refine ⟨_, rfl, ?_⟩
            refine TL_pure rfl rfl rfl rfl (op_load_agg ag40 sz40 rfl rfl rfl) ?_
            refine TL_nil ?_
            refine TZ_keepH [1, 2, 3, 6, 9, 10, 20, 22, 23, 24, 25, 26, 27, 28, 29, 30, 31, 33, 34] [11, 12, 13, 14, 1215, 1375] rfl rfl rfl rfl (by rw [hF]; rfl) ?_
            exact hS974_5
          · refine ⟨_, rfl, ?_⟩
            refine TL_alloc 1855 z42 rfl rfl rfl rfl rfl rfl rfl ?_
            refine TL_nil ?_
            refine TZ_keepH [1, 2, 3, 6, 9, 10, 11, 20, 22, 23, 24, 25, 26, 27, 28, 29, 30, 31, 33] [11, 12, 13, 14, 1215, 1375, 1855] rfl rfl rfl rfl (by rw [hF]; rfl) ?_
            exact hS974_7
        refine TZ_cut 5 [true, true, true, true, false, false, true, true, false, false, true, false] ⟨[(1, .sl 5 (List.map a_Node p1)), (2, .sl 2 (List.map a_Term p2)), (3, .ptr 11 0 0), (6, .ptr 12 0 0), (9, .ptr 13 0 0), (10, .ptr 14 0 0), (11, .ptr 1855 0 0), (20, .bool ((!r14) || (decide ((14 : Int) < (p2.length : Int))))), (22, .ptr 11 0 0), (23, .sl 2 (List.map a_Term p0.Facts)), (24, .int .i64 (p0.Facts.length : Int)), (25, .sl 2 (List.map a_Term p2)), (26, .int .i64 (p2.length : Int)), (27, .ptr 11 0 0), (28, .sl 2 (List.map a_Term p0.Facts)), (29, .ow 1215), (30, .sl 2 (List.map a_Term p2)), (33, .ptr 11 0 1), (34, .agg [.int .i64 p0.Goal.Const, .sl 1 (List.map a_i64 p0.Goal.Coeffs)])], [(11, .box [.sl 2 (List.map a_Term p0.Facts), .int .i64 p0.Goal.Const, .sl 1 (List.map a_i64 p0.Goal.Coeffs)]), (12, .box [.snil, .int .i64 (0 : Int), .snil]), (13, .box [.int .i64 (p0.Facts.length : Int)]), (14, .box [.int .i64 (p2.length : Int)]), (1215, .arr ⟨false, true⟩ 2 40 (List.map a_Term r29)), (1855, .box [.snil, .int .i64 (0 : Int), .snil])]⟩ ?_ (fun hS974_9 => ?_)
        · refine TZ_one 4 (by kernel_rfl) rfl ?_
          refine TL_callO [(1000, 1375)] (c_impl_ownTerms p2 r31 hr31) Try.call78 rfl rfl rfl rfl rfl rfl rfl rfl rfl rfl rfl rfl rfl ?_
          refine TL_nil ?_
          refine TZ_one 5 (by kernel_rfl) rfl ?_
          refine TL_appendDT (f := a_Term) (a := r29) (b := r31) el39 z40 rfl rfl rfl rfl rfl rfl rfl rfl (by rw [hF]; rfl) (capI_spec hq32) rfl rfl rfl rfl rfl ?_
          refine TL_nil ?_
          refine TZ_one 8 (by kernel_rfl) rfl ?_
          refine TL_callO [(1000, 1695)] (c_impl_Term_own p0.Goal r35 hr35) Try.call89 rfl rfl rfl rfl rfl rfl rfl rfl rfl rfl rfl rfl rfl ?_
          refine TL_nil ?_
          refine TZ_pure 9 (by kernel_rfl) rfl rfl rfl rfl rfl (op_buildP pl42 z42 rfl rfl rfl rfl rfl) ?_
          refine TZ_one 11 (by kernel_rfl) rfl ?_
          refine TL_store_box sz42 rfl rfl rfl rfl rfl rfl rfl rfl rfl ?_
          refine TL_nil ?_
          refine TZ_done (by kernel_rfl) ?_
          refine T_keepH [1, 6, 9, 10, 11] [12, 13, 14, 1215, 1695, 1855] rfl rfl rfl rfl (by rw [hF]; rfl) ?_
          refine T_ren [(12, 12), (13, 13), (14, 14), (1215, 255), (1695, 735), (1855, 895)] rfl rfl rfl (by rw [hF]; rfl) ?_
          exact hj0 ((r29 ++ r31), r35.Const, r35.Coeffs) hm
        refine TZ_cut 6 [true, true, true, true, false, false, true, true, false, false, false, false] ⟨[(1, .sl 5 (List.map a_Node p1)), (2, .sl 2 (List.map a_Term p2)), (3, .ptr 11 0 0), (6, .ptr 12 0 0), (9, .ptr 13 0 0), (10, .ptr 14 0 0), (20, .bool ((!r14) || (decide ((14 : Int) < (p2.length : Int))))), (22, .ptr 11 0 0), (23, .sl 2 (List.map a_Term p0.Facts)), (24, .int .i64 (p0.Facts.length : Int)), (25, .sl 2 (List.map a_Term p2)), (26, .int .i64 (p2.length : Int)), (27, .ptr 11 0 0), (28, .sl 2 (List.map a_Term p0.Facts)), (29, .ow 1215), (30, .sl 2 (List.map a_Term p2)), (33, .ptr 11 0 1), (34, .agg [.int .i64 p0.Goal.Const, .sl 1 (List.map a_i64 p0.Goal.Coeffs)])], [(11, .box [.sl 2 (List.map a_Term p0.Facts), .int .i64 p0.Goal.Const, .sl 1 (List.map a_i64 p0.Goal.Coeffs)]), (12, .box [.snil, .int .i64 (0 : Int), .snil]), (13, .box [.int .i64 (p0.Facts.length : Int)]), (14, .box [.int .i64 (p2.length : Int)]), (1215, .arr ⟨false, true⟩ 2 40 (List.map a_Term r29))]⟩ ?_ (fun hS974_10 => ?_)
        · refine TZ_each [4, 10] (by kernel_rfl) rfl ?_
          refine ⟨?_, ?_⟩
          · refine ⟨_, rfl, ?_⟩
            refine TL_callO [(1000, 1375)] (c_impl_ownTerms p2 r31 hr31) Try.call78 rfl rfl rfl rfl rfl rfl rfl rfl rfl rfl rfl rfl rfl ?_
            refine TL_nil ?_
            refine TZ_keepH [1, 2, 3, 6, 9, 10, 20, 22, 23, 24, 25, 26, 27, 28, 29, 30, 31, 33, 34] [11, 12, 13, 14, 1215, 1375] rfl rfl rfl rfl (by rw [hF]; rfl) ?_
            exact hS974_5
          · refine ⟨_, rfl, ?_⟩
            refine TL_alloc 1855 z42 rfl rfl rfl rfl rfl rfl rfl ?_
            refine TL_nil ?_
            refine TZ_keepH [1, 2, 3, 6, 9, 10, 11, 20, 22, 23, 24, 25, 26, 27, 28, 29, 30, 33, 34] [11, 12, 13, 14, 1215, 1855] rfl rfl rfl rfl (by rw [hF]; rfl) ?_
            exact hS974_9
        refine TZ_cut 6 [true, true, true, true, false, false, true, false, false, false, true, false] ⟨[(1, .sl 5 (List.map a_Node p1)), (2, .sl 2 (List.map a_Term p2)), (3, .ptr 11 0 0), (6, .ptr 12 0 0), (9, .ptr 13 0 0), (10, .ptr 14 0 0), (11, .ptr 1855 0 0), (20, .bool ((!r14) || (decide ((14 : Int) < (p2.length : Int))))), (22, .ptr 11 0 0), (23, .sl 2 (List.map a_Term p0.Facts)), (24, .int .i64 (p0.Facts.length : Int)), (25, .sl 2 (List.map a_Term p2)), (26, .int .i64 (p2.length : Int)), (27, .ptr 11 0 0), (28, .sl 2 (List.map a_Term p0.Facts)), (29, .ow 1215), (30, .sl 2 (List.map a_Term p2)), (33, .ptr 11 0 1)], [(11, .box [.sl 2 (List.map a_Term p0.Facts), .int .i64 p0.Goal.Const, .sl 1 (List.map a_i64 p0.Goal.Coeffs)]), (12, .box [.snil, .int .i64 (0 : Int), .snil]), (13, .box [.int .i64 (p0.Facts.length : Int)]), (14, .box [.int .i64 (p2.length : Int)]), (1215, .arr ⟨false, true⟩ 2 40 (List.map a_Term r29)), (1855, .box [.snil, .int .i64 (0 : Int), .snil])]⟩ ?_ (fun hS974_11 => ?_)
        · refine TZ_each [4, 7] (by kernel_rfl) rfl ?_
          refine ⟨?_, ?_⟩
          · refine ⟨_, rfl, ?_⟩
            refine TL_callO [(1000, 1375)] (c_impl_ownTerms p2 r31 hr31) Try.call78 rfl rfl rfl rfl rfl rfl rfl rfl rfl rfl rfl rfl rfl ?_
            refine TL_nil ?_
            refine TZ_keepH [1, 2, 3, 6, 9, 10, 11, 20, 22, 23, 24, 25, 26, 27, 28, 29, 30, 31, 33] [11, 12, 13, 14, 1215, 1375, 1855] rfl rfl rfl rfl (by rw [hF]; rfl) ?_
            exact hS974_7
          · refine ⟨_, rfl, ?_⟩
            refine TL_pure rfl rfl rfl rfl (op_load_agg ag40 sz40 rfl rfl rfl) ?_
            refine TL_nil ?_
            refine TZ_keepH [1, 2, 3, 6, 9, 10, 11, 20, 22, 23, 24, 25, 26, 27, 28, 29, 30, 33, 34] [11, 12, 13, 14, 1215, 1855] rfl rfl rfl rfl (by rw [hF]; rfl) ?_
            exact hS974_9
        refine TZ_cut 7 [true, true, true, true, false, false, true, false, false, false, false, false] ⟨[(1, .sl 5 (List.map a_Node p1)), (2, .sl 2 (List.map a_Term p2)), (3, .ptr 11 0 0), (6, .ptr 12 0 0), (9, .ptr 13 0 0), (10, .ptr 14 0 0), (20, .bool ((!r14) || (decide ((14 : Int) < (p2.length : Int))))), (22, .ptr 11 0 0), (23, .sl 2 (List.map a_Term p0.Facts)), (24, .int .i64 (p0.Facts.length : Int)), (25, .sl 2 (List.map a_Term p2)), (26, .int .i64 (p2.length : Int)), (27, .ptr 11 0 0), (28, .sl 2 (List.map a_Term p0.Facts)), (29, .ow 1215), (30, .sl 2 (List.map a_Term p2)), (33, .ptr 11 0 1)], [(11, .box [.sl 2 (List.map a_Term p0.Facts), .int .i64 p0.Goal.Const, .sl 1 (List.map a_i64 p0.Goal.Coeffs)]), (12, .box [.snil, .int .i64 (0 : Int), .snil]), (13, .box [.int .i64 (p0.Facts.length : Int)]), (14, .box [.int .i64 (p2.length : Int)]), (1215, .arr ⟨false, true⟩ 2 40 (List.map a_Term r29))]⟩ ?_ (fun hS974_12 => ?_)
        · refine TZ_each [4, 7, 10] (by kernel_rfl) rfl ?_
          refine ⟨?_, ?_, ?_⟩
          · refine ⟨_, rfl, ?_⟩
            refine TL_callO [(1000, 1375)] (c_impl_ownTerms p2 r31 hr31) Try.call78 rfl rfl rfl rfl rfl rfl rfl rfl rfl rfl rfl rfl rfl ?_
            refine TL_nil ?_
            refine TZ_keepH [1, 2, 3, 6, 9, 10, 20, 22, 23, 24, 25, 26, 27, 28, 29, 30, 31, 33] [11, 12, 13, 14, 1215, 1375] rfl rfl rfl rfl (by rw [hF]; rfl) ?_
            exact hS974_8
          · refine ⟨_, rfl, ?_⟩
            refine TL_pure rfl rfl rfl rfl (op_load_agg ag40 sz40 rfl rfl rfl) ?_
            refine TL_nil ?_
            refine TZ_keepH [1, 2, 3, 6, 9, 10, 20, 22, 23, 24, 25, 26, 27, 28, 29, 30, 33, 34] [11, 12, 13, 14, 1215] rfl rfl rfl rfl (by rw [hF]; rfl) ?_
            exact hS974_10
          · refine ⟨_, rfl, ?_⟩
            refine TL_alloc 1855 z42 rfl rfl rfl rfl rfl rfl rfl ?_
            refine TL_nil ?_
            refine TZ_keepH [1, 2, 3, 6, 9, 10, 11, 20, 22, 23, 24, 25, 26, 27, 28, 29, 30, 33] [11, 12, 13, 14, 1215, 1855] rfl rfl rfl rfl (by rw [hF]; rfl) ?_
            exact hS974_11
        refine TZ_cut 6 [true, true, false, true, false, false, true, true, false, false, true, false] ⟨[(1, .sl 5 (List.map a_Node p1)), (2, .sl 2 (List.map a_Term p2)), (3, .ptr 11 0 0), (6, .ptr 12 0 0), (9, .ptr 13 0 0), (10, .ptr 14 0 0), (11, .ptr 1855 0 0), (20, .bool ((!r14) || (decide ((14 : Int) < (p2.length : Int))))), (22, .ptr 11 0 0), (23, .sl 2 (List.map a_Term p0.Facts)), (24, .int .i64 (p0.Facts.length : Int)), (25, .sl 2 (List.map a_Term p2)), (26, .int .i64 (p2.length : Int)), (27, .ptr 11 0 0), (28, .sl 2 (List.map a_Term p0.Facts)), (30, .sl 2 (List.map a_Term p2)), (33, .ptr 11 0 1), (34, .agg [.int .i64 p0.Goal.Const, .sl 1 (List.map a_i64 p0.Goal.Coeffs)])], [(11, .box [.sl 2 (List.map a_Term p0.Facts), .int .i64 p0.Goal.Const, .sl 1 (List.map a_i64 p0.Goal.Coeffs)]), (12, .box [.snil, .int .i64 (0 : Int), .snil]), (13, .box [.int .i64 (p0.Facts.length : Int)]), (14, .box [.int .i64 (p2.length : Int)]), (1855, .box [.snil, .int .i64 (0 : Int), .snil])]⟩ ?_ (fun hS974_13 => ?_)
        · refine TZ_one 2 (by kernel_rfl) rfl ?_
          refine TL_callO [(1000, 1215)] (c_impl_ownTerms p0.Facts r29 hr29) Try.call78 rfl rfl rfl rfl rfl rfl rfl rfl rfl rfl rfl rfl rfl ?_
          refine TL_nil ?_
          refine TZ_one 4 (by kernel_rfl) rfl ?_
          refine TL_callO [(1000, 1375)] (c_impl_ownTerms p2 r31 hr31) Try.call78 rfl rfl rfl rfl rfl rfl rfl rfl rfl rfl rfl rfl rfl ?_
          refine TL_nil ?_
          refine TZ_one 5 (by kernel_rfl) rfl ?_
          refine TL_appendDT (f := a_Term) (a := r29) (b := r31) el39 z40 rfl rfl rfl rfl rfl rfl rfl rfl (by rw [hF]; rfl) (capI_spec hq32) rfl rfl rfl rfl rfl ?_
          refine TL_nil ?_
          refine TZ_one 8 (by kernel_rfl) rfl ?_
          refine TL_callO [(1000, 1695)] (c_impl_Term_own p0.Goal r35 hr35) Try.call89 rfl rfl rfl rfl rfl rfl rfl rfl rfl rfl rfl rfl rfl ?_
          refine TL_nil ?_
          refine TZ_pure 9 (by kernel_rfl) rfl rfl rfl rfl rfl (op_buildP pl42 z42 rfl rfl rfl rfl rfl) ?_
          refine TZ_one 11 (by kernel_rfl) rfl ?_
          refine TL_store_box sz42 rfl rfl rfl rfl rfl rfl rfl rfl rfl ?_
          refine TL_nil ?_
          refine TZ_done (by kernel_rfl) ?_
          refine T_keepH [1, 6, 9, 10, 11] [12, 13, 14, 1215, 1695, 1855] rfl rfl rfl rfl (by rw [hF]; rfl) ?_
          refine T_ren [(12, 12), (13, 13), (14, 14), (1215, 255), (1695, 735), (1855, 895)] rfl rfl rfl (by rw [hF]; rfl) ?_
          exact hj0 ((r29 ++ r31), r35.Const, r35.Coeffs) hm
        refine TZ_cut 7 [true, true, false, true, false, false, true, true, false, false, false, false] ⟨[(1, .sl 5 (List.map a_Node p1)), (2, .sl 2 (List.map a_Term p2)), (3, .ptr 11 0 0), (6, .ptr 12 0 0), (9, .ptr 13 0 0), (10, .ptr 14 0 0), (20, .bool ((!r14) || (decide ((14 : Int) < (p2.length : Int))))), (22, .ptr 11 0 0), (23, .sl 2 (List.map a_Term p0.Facts)), (24, .int .i64 (p0.Facts.length : Int)), (25, .sl 2 (List.map a_Term p2)), (26, .int .i64 (p2.length : Int)), (27, .ptr 11 0 0), (28, .sl 2 (List.map a_Term p0.Facts)), (30, .sl 2 (List.map a_Term p2)), (33, .ptr 11 0 1), (34, .agg [.int .i64 p0.Goal.Const, .sl 1 (List.map a_i64 p0.Goal.Coeffs)])], [(11, .box [.sl 2 (List.map a_Term p0.Facts), .int .i64 p0.Goal.Const, .sl 1 (List.map a_i64 p0.Goal.Coeffs)]), (12, .box [.snil, .int .i64 (0 : Int), .snil]), (13, .box [.int .i64 (p0.Facts.length : Int)]), (14, .box [.int .i64 (p2.length : Int)])]⟩ ?_ (fun hS974_14 => ?_)
        · refine TZ_each [2, 10] (by kernel_rfl) rfl ?_
          refine ⟨?_, ?_⟩
          · refine ⟨_, rfl, ?_⟩
            refine TL_callO [(1000, 1215)] (c_impl_ownTerms p0.Facts r29 hr29) Try.call78 rfl rfl rfl rfl rfl rfl rfl rfl rfl rfl rfl rfl rfl ?_
            refine TL_nil ?_
            refine TZ_keepH [1, 2, 3, 6, 9, 10, 20, 22, 23, 24, 25, 26, 27, 28, 29, 30, 33, 34] [11, 12, 13, 14, 1215] rfl rfl rfl rfl (by rw [hF]; rfl) ?_
            exact hS974_10
          · refine ⟨_, rfl, ?_⟩
            refine TL_alloc 1855 z42 rfl rfl rfl rfl rfl rfl rfl ?_
            refine TL_nil ?_
            refine TZ_keepH [1, 2, 3, 6, 9, 10, 11, 20, 22, 23, 24, 25, 26, 27, 28, 30, 33, 34] [11, 12, 13, 14, 1855] rfl rfl rfl rfl (by rw [hF]; rfl) ?_
            exact hS974_13
        refine TZ_cut 7 [true, true, false, true, false, false, true, false, false, false, true, false] ⟨[(1, .sl 5 (List.map a_Node p1)), (2, .sl 2 (List.map a_Term p2)), (3, .ptr 11 0 0), (6, .ptr 12 0 0), (9, .ptr 13 0 0), (10, .ptr 14 0 0), (11, .ptr 1855 0 0), (20, .bool ((!r14) || (decide ((14 : Int) < (p2.length : Int))))), (22, .ptr 11 0 0), (23, .sl 2 (List.map a_Term p0.Facts)), (24, .int .i64 (p0.Facts.length : Int)), (25, .sl 2 (List.map a_Term p2)), (26, .int .i64 (p2.length : Int)), (27, .ptr 11 0 0), (28, .sl 2 (List.map a_Term p0.Facts)), (30, .sl 2 (List.map a_Term p2)), (33, .ptr 11 0 1)], [(11, .box [.sl 2 (List.map a_Term p0.Facts), .int .i64 p0.Goal.Const, .sl 1 (List.map a_i64 p0.Goal.Coeffs)]), (12, .box [.snil, .int .i64 (0 : Int), .snil]), (13, .box [.int .i64 (p0.Facts.length : Int)]), (14, .box [.int .i64 (p2.length : Int)]), (1855, .box [.snil, .int .i64 (0 : Int), .snil])]⟩ ?_ (fun hS974_15 => ?_)
        · refine TZ_each [2, 7] (by kernel_rfl) rfl ?_
          refine ⟨?_, ?_⟩
          · refine ⟨_, rfl, ?_⟩
            refine TL_callO [(1000, 1215)] (c_impl_ownTerms p0.Facts r29 hr29) Try.call78 rfl rfl rfl rfl rfl rfl rfl rfl rfl rfl rfl rfl rfl ?_
            refine TL_nil ?_
            refine TZ_keepH [1, 2, 3, 6, 9, 10, 11, 20, 22, 23, 24, 25, 26, 27, 28, 29, 30, 33] [11, 12, 13, 14, 1215, 1855] rfl rfl rfl rfl (by rw [hF]; rfl) ?_
            exact hS974_11
          · refine ⟨_, rfl, ?_⟩
            refine TL_pure rfl rfl rfl rfl (op_load_agg ag40 sz40 rfl rfl rfl) ?_
            refine TL_nil ?_
            refine TZ_keepH [1, 2, 3, 6, 9, 10, 11, 20, 22, 23, 24, 25, 26, 27, 28, 30, 33, 34] [11, 12, 13, 14, 1855] rfl rfl rfl rfl (by rw [hF]; rfl) ?_
            exact hS974_13
        refine TZ_cut 8 [true, true, false, true, false, false, true, false, false, false, false, false] ⟨[(1, .sl 5 (List.map a_Node p1)), (2, .sl 2 (List.map a_Term p2)), (3, .ptr 11 0 0), (6, .ptr 12 0 0), (9, .ptr 13 0 0), (10, .ptr 14 0 0), (20, .bool ((!r14) || (decide ((14 : Int) < (p2.length : Int))))), (22, .ptr 11 0 0), (23, .sl 2 (List.map a_Term p0.Facts)), (24, .int .i64 (p0.Facts.length : Int)), (25, .sl 2 (List.map a_Term p2)), (26, .int .i64 (p2.length : Int)), (27, .ptr 11 0 0), (28, .sl 2 (List.map a_Term p0.Facts)), (30, .sl 2 (List.map a_Term p2)), (33, .ptr 11 0 1)], [(11, .box [.sl 2 (List.map a_Term p0.Facts), .int .i64 p0.Goal.Const, .sl 1 (List.map a_i64 p0.Goal.Coeffs)]), (12, .box [.snil, .int .i64 (0 : Int), .snil]), (13, .box [.int .i64 (p0.Facts.length : Int)]), (14, .box [.int .i64 (p2.length : Int)])]⟩ ?_ (fun hS974_16 => ?_)
        · refine TZ_each [2, 7, 10] (by kernel_rfl) rfl ?_
          refine ⟨?_, ?_, ?_⟩
          · refine ⟨_, rfl, ?_⟩
            refine TL_callO [(1000, 1215)] (c_impl_ownTerms p0.Facts r29 hr29) Try.call78 rfl rfl rfl rfl rfl rfl rfl rfl rfl rfl rfl rfl rfl ?_
            refine TL_nil ?_
            refine TZ_keepH [1, 2, 3, 6, 9, 10, 20, 22, 23, 24, 25, 26, 27, 28, 29, 30, 33] [11, 12, 13, 14, 1215] rfl rfl rfl rfl (by rw [hF]; rfl) ?_
            exact hS974_12
          · refine ⟨_, rfl, ?_⟩
            refine TL_pure rfl rfl rfl rfl (op_load_agg ag40 sz40 rfl rfl rfl) ?_
            refine TL_nil ?_
            refine TZ_keepH [1, 2, 3, 6, 9, 10, 20, 22, 23, 24, 25, 26, 27, 28, 30, 33, 34] [11, 12, 13, 14] rfl rfl rfl rfl (by rw [hF]; rfl) ?_
            exact hS974_14
          · refine ⟨_, rfl, ?_⟩
            refine TL_alloc 1855 z42 rfl rfl rfl rfl rfl rfl rfl ?_
            refine TL_nil ?_
            refine TZ_keepH [1, 2, 3, 6, 9, 10, 11, 20, 22, 23, 24, 25, 26, 27, 28, 30, 33] [11, 12, 13, 14, 1855] rfl rfl rfl rfl (by rw [hF]; rfl) ?_
            exact hS974_15
        refine TZ_cut 7 [true, false, false, true, false, false, true, true, false, false, true, false] ⟨[(1, .sl 5 (List.map a_Node p1)), (2, .sl 2 (List.map a_Term p2)), (3, .ptr 11 0 0), (6, .ptr 12 0 0), (9, .ptr 13 0 0), (10, .ptr 14 0 0), (11, .ptr 1855 0 0), (20, .bool ((!r14) || (decide ((14 : Int) < (p2.length : Int))))), (22, .ptr 11 0 0), (23, .sl 2 (List.map a_Term p0.Facts)), (24, .int .i64 (p0.Facts.length : Int)), (25, .sl 2 (List.map a_Term p2)), (26, .int .i64 (p2.length : Int)), (27, .ptr 11 0 0), (30, .sl 2 (List.map a_Term p2)), (33, .ptr 11 0 1), (34, .agg [.int .i64 p0.Goal.Const, .sl 1 (List.map a_i64 p0.Goal.Coeffs)])], [(11, .box [.sl 2 (List.map a_Term p0.Facts), .int .i64 p0.Goal.Const, .sl 1 (List.map a_i64 p0.Goal.Coeffs)]), (12, .box [.snil, .int .i64 (0 : Int), .snil]), (13, .box [.int .i64 (p0.Facts.length : Int)]), (14, .box [.int .i64 (p2.length : Int)]), (1855, .box [.snil, .int .i64 (0 : Int), .snil])]⟩ ?_ (fun hS974_17 => ?_)
        · refine TZ_one 1 (by kernel_rfl) rfl ?_
          refine TL_pure rfl rfl rfl rfl (op_load_one ag39 rfl rfl) ?_
          refine TL_nil ?_
          refine TZ_one 2 (by kernel_rfl) rfl ?_
          refine TL_callO [(1000, 1215)] (c_impl_ownTerms p0.Facts r29 hr29) Try.call78 rfl rfl rfl rfl rfl rfl rfl rfl rfl rfl rfl rfl rfl ?_
          refine TL_nil ?_
          refine TZ_one 4 (by kernel_rfl) rfl ?_
          refine TL_callO [(1000, 1375)] (c_impl_ownTerms p2 r31 hr31) Try.call78 rfl rfl rfl rfl rfl rfl rfl rfl rfl rfl rfl rfl rfl ?_
          refine TL_nil ?_
          refine TZ_one 5 (by kernel_rfl) rfl ?_
          refine TL_appendDT (f := a_Term) (a := r29) (b := r31) el39 z40 rfl rfl rfl rfl rfl rfl rfl rfl (by rw [hF]; rfl) (capI_spec hq32) rfl rfl rfl rfl rfl ?_
          refine TL_nil ?_
          refine TZ_one 8 (by kernel_rfl) rfl ?_
          refine TL_callO [(1000, 1695)] (c_impl_Term_own p0.Goal r35 hr35) Try.call89 rfl rfl rfl rfl rfl rfl rfl rfl rfl rfl rfl rfl rfl ?_
          refine TL_nil ?_
          refine TZ_pure 9 (by kernel_rfl) rfl rfl rfl rfl rfl (op_buildP pl42 z42 rfl rfl rfl rfl rfl) ?_
          refine TZ_one 11 (by kernel_rfl) rfl ?_
          refine TL_store_box sz42 rfl rfl rfl rfl rfl rfl rfl rfl rfl ?_
          refine TL_nil ?_
          refine TZ_done (by kernel_rfl) ?_
          refine T_keepH [1, 6, 9, 10, 11] [12, 13, 14, 1215, 1695, 1855] rfl rfl rfl rfl (by rw [hF]; rfl) ?_
          refine T_ren [(12, 12), (13, 13), (14, 14), (1215, 255), (1695, 735), (1855, 895)] rfl rfl rfl (by rw [hF]; rfl) ?_
          exact hj0 ((r29 ++ r31), r35.Const, r35.Coeffs) hm
        refine TZ_cut 8 [true, false, false, true, false, false, true, true, false, false, false, false] ⟨[(1, .sl 5 (List.map a_Node p1)), (2, .sl 2 (List.map a_Term p2)), (3, .ptr 11 0 0), (6, .ptr 12 0 0), (9, .ptr 13 0 0), (10, .ptr 14 0 0), (20, .bool ((!r14) || (decide ((14 : Int) < (p2.length : Int))))), (22, .ptr 11 0 0), (23, .sl 2 (List.map a_Term p0.Facts)), (24, .int .i64 (p0.Facts.length : Int)), (25, .sl 2 (List.map a_Term p2)), (26, .int .i64 (p2.length : Int)), (27, .ptr 11 0 0), (30, .sl 2 (List.map a_Term p2)), (33, .ptr 11 0 1), (34, .agg [.int .i64 p0.Goal.Const, .sl 1 (List.map a_i64 p0.Goal.Coeffs)])], [(11, .box [.sl 2 (List.map a_Term p0.Facts), .int .i64 p0.Goal.Const, .sl 1 (List.map a_i64 p0.Goal.Coeffs)]), (12, .box [.snil, .int .i64 (0 : Int), .snil]), (13, .box [.int .i64 (p0.Facts.length : Int)]), (14, .box [.int .i64 (p2.length : Int)])]⟩ ?_ (fun hS974_18 => ?_)
        · refine TZ_each [1, 10] (by kernel_rfl) rfl ?_
          refine ⟨?_, ?_⟩
          · refine ⟨_, rfl, ?_⟩
            refine TL_pure rfl rfl rfl rfl (op_load_one ag39 rfl rfl) ?_
            refine TL_nil ?_
            refine TZ_keepH [1, 2, 3, 6, 9, 10, 20, 22, 23, 24, 25, 26, 27, 28, 30, 33, 34] [11, 12, 13, 14] rfl rfl rfl rfl (by rw [hF]; rfl) ?_
            exact hS974_14
          · refine ⟨_, rfl, ?_⟩
            refine TL_alloc 1855 z42 rfl rfl rfl rfl rfl rfl rfl ?_
            refine TL_nil ?_
            refine TZ_keepH [1, 2, 3, 6, 9, 10, 11, 20, 22, 23, 24, 25, 26, 27, 30, 33, 34] [11, 12, 13, 14, 1855] rfl rfl rfl rfl (by rw [hF]; rfl) ?_
            exact hS974_17
        refine TZ_cut 8 [true, false, false, true, false, false, true, false, false, false, true, false] ⟨[(1, .sl 5 (List.map a_Node p1)), (2, .sl 2 (List.map a_Term p2)), (3, .ptr 11 0 0), (6, .ptr 12 0 0), (9, .ptr 13 0 0), (10, .ptr 14 0 0), (11, .ptr 1855 0 0), (20, .bool ((!r14) || (decide ((14 : Int) < (p2.length : Int))))), (22, .ptr 11 0 0), (23, .sl 2 (List.map a_Term p0.Facts)), (24, .int .i64 (p0.Facts.length : Int)), (25, .sl 2 (List.map a_Term p2)), (26, .int .i64 (p2.length : Int)), (27, .ptr 11 0 0), (30, .sl 2 (List.map a_Term p2)), (33, .ptr 11 0 1)], [(11, .box [.sl 2 (List.map a_Term p0.Facts), .int .i64 p0.Goal.Const, .sl 1 (List.map a_i64 p0.Goal.Coeffs)]), (12, .box [.snil, .int .i64 (0 : Int), .snil]), (13, .box [.int .i64 (p0.Facts.length : Int)]), (14, .box [.int .i64 (p2.length : Int)]), (1855, .box [.snil, .int .i64 (0 : Int), .snil])]⟩ ?_ (fun hS974_19 => ?_)
        · refine TZ_each [1, 7] (by kernel_rfl) rfl ?_
          refine ⟨?_, ?_⟩
          · refine ⟨_, rfl, ?_⟩
            refine TL_pure rfl rfl rfl rfl (op_load_one ag39 rfl rfl) ?_
            refine TL_nil ?_
            refine TZ_keepH [1, 2, 3, 6, 9, 10, 11, 20, 22, 23, 24, 25, 26, 27, 28, 30, 33] [11, 12, 13, 14, 1855] rfl rfl rfl rfl (by rw [hF]; rfl) ?_
            exact hS974_15
          · refine ⟨_, rfl, ?_⟩
            refine TL_pure rfl rfl rfl rfl (op_load_agg ag40 sz40 rfl rfl rfl) ?_
            refine TL_nil ?_
            refine TZ_keepH [1, 2, 3, 6, 9, 10, 11, 20, 22, 23, 24, 25, 26, 27, 30, 33, 34] [11, 12, 13, 14, 1855] rfl rfl rfl rfl (by rw [hF]; rfl) ?_
            exact hS974_17
        refine TZ_each [1, 7, 10] (by kernel_rfl) rfl ?_
        refine ⟨?_, ?_, ?_⟩
        · refine ⟨_, rfl, ?_⟩
          refine TL_pure rfl rfl rfl rfl (op_load_one ag39 rfl rfl) ?_
          refine TL_nil ?_
          refine TZ_keepH [1, 2, 3, 6, 9, 10, 20, 22, 23, 24, 25, 26, 27, 28, 30, 33] [11, 12, 13, 14] rfl rfl rfl rfl (by rw [hF]; rfl) ?_
          exact hS974_16
        · refine ⟨_, rfl, ?_⟩
          refine TL_pure rfl rfl rfl rfl (op_load_agg ag40 sz40 rfl rfl rfl) ?_
          refine TL_nil ?_
          refine TZ_keepH [1, 2, 3, 6, 9, 10, 20, 22, 23, 24, 25, 26, 27, 30, 33, 34] [11, 12, 13, 14] rfl rfl rfl rfl (by rw [hF]; rfl) ?_
          exact hS974_18
        · refine ⟨_, rfl, ?_⟩
          refine TL_alloc 1855 z42 rfl rfl rfl rfl rfl rfl rfl ?_
          refine TL_nil ?_
          refine TZ_keepH [1, 2, 3, 6, 9, 10, 11, 20, 22, 23, 24, 25, 26, 27, 30, 33] [11, 12, 13, 14, 1855] rfl rfl rfl rfl (by rw [hF]; rfl) ?_
          exact hS974_19
  · refine TL_split 16 rfl rfl rfl (fun hq => ?_) (fun hq => ?_)
    · refine TL_pass rfl rfl rfl rfl rfl rfl rfl ?_
      refine TL_pass rfl rfl rfl rfl rfl rfl rfl ?_
      refine TL_pass rfl rfl rfl rfl rfl rfl rfl ?_
      refine TL_pure rfl rfl rfl rfl (op_pick_true rfl rfl) ?_
      refine TL_keepH [1, 2, 3, 6, 20] [11, 12] rfl rfl rfl rfl (by rw [hF]; rfl) ?_
      exact TL_cast _ (by first | (rw [hq, Bool.true_or]; done) | (rw [hq]; rfl)) (hjj () trivial)
    · refine TL_want rfl rfl ?_
      refine TL_pure rfl rfl rfl rfl (op_move rfl) ?_
      refine TL_want rfl rfl ?_
      refine TL_pure rfl rfl rfl rfl (op_lenT Try.underlying39 rfl (List.length_map _)) ?_
      refine TL_fact (fun _ _ _ hr => RelP.slLen (i := 17) rfl hr) (fun hlen18 => ?_)
      rw [List.length_map] at hlen18
      refine TL_want rfl rfl ?_
      refine TL_pure rfl rfl rfl rfl (op_gtr rfl rfl) ?_
      refine TL_pure rfl rfl rfl rfl (op_pick_false rfl rfl) ?_
      refine TL_keepH [1, 2, 3, 6, 20] [11, 12] rfl rfl rfl rfl (by rw [hF]; rfl) ?_
      exact TL_cast _ (by first | (rw [hq, Bool.false_or]; done) | (rw [hq]; rfl)) (hjj () trivial)
theorem c_laws_r8Has (p0 : List Int) (p1 : Int) (out : Bool) (hm : m_laws_r8Has p0 p1 = some out) : ACall Try.prog 41 [.sl 1 (List.map a_i64 p0), .int .i64 p1] [] (.bool out) [] := by
  refine ACall.intro Try.func41 rfl Try.ntmps41 rfl (fun F hF => ?_)
  unfold m_laws_r8Has at hm
  refine T_seq ?_
  refine T_region ?_
  refine TL_pure rfl rfl rfl rfl (op_assign rfl) ?_
  refine TL_nil ?_
  refine T_seq ?_
  refine T_seq ?_
  refine T_region ?_
  refine TL_pure rfl rfl rfl rfl (op_assign rfl) ?_
  refine TL_nil ?_
  refine T_block ?_
  refine T_keepH [0, 1, 5] [] rfl rfl rfl rfl (by rw [hF]; rfl) ?_
  refine T_loop ?_
  obtain ⟨u0, hl0, hm⟩ := bindS hm
  refine TR_iter2 (m_laws_r8Has_L0 p0 p1) (fun (s0 : Int) => ⟨[(0, .sl 1 (List.map a_i64 p0)), (1, .int .i64 p1), (5, .int .i64 s0)], []⟩) (fun u0 => match u0 with | .inl u0 => .exit 0 | .inr u0 => .ret) (fun u0 => match u0 with | .inl u0 => ⟨[], []⟩ | .inr u0 => ⟨[(4, .bool u0)], []⟩) (fun u0 => m_laws_r8Has_A0 u0 = some out) hl0 hm (fun u0 hm => ?_) (fun hx0 s0 c0 hm hc0 => ?_)
  · rcases u0 with u0 | u0
    · unfold m_laws_r8Has_A0 at hm
      refine T_seq ?_
      refine T_region ?_
      refine TL_pure rfl rfl rfl rfl (op_assign rfl) ?_
      refine TL_nil ?_
      refine T_keepH [4] [] rfl rfl rfl rfl (by rw [hF]; rfl) ?_
      refine T_ret ?_
      obtain rfl := someI hm
      refine ⟨[_], [], ⟨rfl, trivial⟩, ?_, rfl, rfl, rfl, rfl⟩
      rfl
    · unfold m_laws_r8Has_A0 at hm
      obtain rfl := someI hm
      refine ⟨[_], [], ⟨rfl, trivial⟩, ?_, rfl, rfl, rfl, rfl⟩
      rfl
  · unfold m_laws_r8Has_L0 at hm
    refine T_seq ?_
    refine T_seq ?_
    refine T_region ?_
    refine TL_pure rfl rfl rfl rfl (op_move rfl) ?_
    refine TL_pure rfl rfl rfl rfl (op_move rfl) ?_
    refine TL_pure rfl rfl rfl rfl (op_lenT Try.underlying32 rfl (List.length_map _)) ?_
    refine TL_fact (fun _ _ _ hr => RelP.slLen (i := 7) rfl hr) (fun hlen8 => ?_)
    rw [List.length_map] at hlen8
    refine TL_pure rfl rfl rfl rfl (op_lss rfl rfl) ?_
    refine TL_nil ?_
    refine T_cond rfl (fun hq => ?_) (fun hq => ?_)
    · replace hm := condT hq hm
      refine T_skip ?_
      refine T_seq ?_
      refine T_block ?_
      refine T_seq ?_
      refine T_region ?_
      refine TL_pure rfl rfl rfl rfl (op_move rfl) ?_
      refine TL_pure rfl rfl rfl rfl (op_move rfl) ?_
      obtain ⟨x14, hx14, hm⟩ := bindS hm
      refine TL_pure rfl rfl rfl rfl (op_indexT el32 rfl rfl hx14 rfl) ?_
      refine TL_pure rfl rfl rfl rfl (op_load_one ag2 rfl rfl) ?_
      refine TL_pure rfl rfl rfl rfl (op_move rfl) ?_
      refine TL_pure rfl rfl rfl rfl (op_eql rfl rfl) ?_
      refine TL_nil ?_
      refine T_cond rfl (fun hq => ?_) (fun hq => ?_)
      · replace hm := condT hq hm
        refine T_seq ?_
        refine T_region ?_
        refine TL_pure rfl rfl rfl rfl (op_assign rfl) ?_
        refine TL_nil ?_
        refine T_keepH [4] [] rfl rfl rfl rfl (by rw [hF]; rfl) ?_
        refine T_ret ?_
        obtain rfl := someI hm
        have hn := CtlOK_out hc0
        exact hx0 (.inr true) hn
      · replace hm := condF hq hm
        refine T_skip ?_
        refine T_region ?_
        refine TL_pure rfl rfl rfl rfl (op_move rfl) ?_
        refine TL_pure rfl rfl rfl rfl (op_addW rfl rfl) ?_
        refine TL_pure rfl rfl rfl rfl (op_assign rfl) ?_
        refine TL_nil ?_
        refine TR_keepH [0, 1, 5] [] rfl rfl rfl rfl (by rw [hF]; rfl) ?_
        obtain rfl := someI hm
        have hn := CtlOK_next hc0
        exact hn _ rfl
    · replace hm := condF hq hm
      refine T_keepH [] [] rfl rfl rfl rfl (by rw [hF]; rfl) ?_
      refine T_exit ?_
      obtain rfl := someI hm
      have hn := CtlOK_out hc0
      exact hx0 (.inl ()) hn
theorem c_laws_FnUnused (p0 : List Int) (p1 : List Int) (out : Bool) (hm : m_laws_FnUnused p0 p1 = some out) : ACall Try.prog 8 [.sl 1 (List.map a_u8 p0), .sl 1 (List.map a_u8 p1)] [] (.bool out) [] := by
  refine ACall.intro Try.func8 rfl Try.ntmps8 rfl (fun F hF => ?_)
  unfold m_laws_FnUnused at hm
  refine T_seq ?_
  refine T_region ?_
  refine TL_pure rfl rfl rfl rfl (op_assign rfl) ?_
  refine TL_nil ?_
  refine T_seq ?_
  refine T_seq ?_
  refine T_region ?_
  refine TL_pure rfl rfl rfl rfl (op_move rfl) ?_
  refine TL_pure rfl rfl rfl rfl (op_move rfl) ?_
  obtain ⟨r25, hr25, hm⟩ := bindS hm
  refine TL_callF (c_laws_r8Long p0 p1 r25 hr25) Try.call24 rfl rfl rfl rfl rfl ?_
  refine TL_nil ?_
  refine T_cond rfl (fun hq => ?_) (fun hq => ?_)
  · replace hm := condT hq hm
    refine T_seq ?_
    refine T_region ?_
    refine TL_pure rfl rfl rfl rfl (op_assign rfl) ?_
    refine TL_nil ?_
    refine T_keepH [4] [] rfl rfl rfl rfl (by rw [hF]; rfl) ?_
    refine T_ret ?_
    obtain rfl := someI hm
    refine ⟨[_], [], ⟨rfl, trivial⟩, ?_, rfl, rfl, rfl, rfl⟩
    rfl
  · replace hm := condF hq hm
    refine T_skip ?_
    refine T_seq ?_
    refine T_region ?_
    refine TL_pure rfl rfl rfl rfl (op_move rfl) ?_
    obtain ⟨r28, hr28, hm⟩ := bindS hm
    refine TL_callT (c_spec_R8Proved p0 r28 hr28) Try.call25 rfl rfl rfl rfl rfl ?_
    refine TL_pure rfl rfl rfl rfl (op_move rfl) ?_
    refine TL_pure rfl rfl rfl rfl (op_extract rfl rfl) ?_
    refine TL_pure rfl rfl rfl rfl (op_extract rfl rfl) ?_
    refine TL_alloc 11 z42 rfl rfl rfl rfl rfl rfl rfl ?_
    refine TL_store_box sz42 rfl rfl rfl rfl rfl rfl rfl rfl rfl ?_
    refine TL_pure rfl rfl rfl rfl (op_assign rfl) ?_
    refine TL_nil ?_
    refine T_seq ?_
    refine T_region ?_
    refine TL_pure rfl rfl rfl rfl (op_load_agg ag42 sz42 rfl rfl rfl) ?_
    refine TL_pure rfl rfl rfl rfl (op_move rfl) ?_
    obtain ⟨r34, hr34, hm⟩ := bindS hm
    refine TL_callO [(1000, 12)] (c_impl_UsedFacts r28.1 r28.2 r34 hr34) Try.call37 rfl rfl rfl rfl rfl rfl rfl rfl rfl rfl rfl rfl rfl ?_
    refine TL_pure rfl rfl rfl rfl (op_move rfl) ?_
    refine TL_pure rfl rfl rfl rfl (op_extract rfl rfl) ?_
    refine TL_pure rfl rfl rfl rfl (op_extract rfl rfl) ?_
    refine TL_pure rfl rfl rfl rfl (op_assign rfl) ?_
    refine TL_pure rfl rfl rfl rfl (op_assign rfl) ?_
    refine TL_nil ?_
    refine T_seq ?_
    refine T_region ?_
    refine TL_pure rfl rfl rfl rfl (op_load_agg ag42 sz42 rfl rfl rfl) ?_
    refine TL_pure rfl rfl rfl rfl (op_move rfl) ?_
    obtain ⟨r40, hr40, hm⟩ := bindS hm
    refine TL_callT (c_impl_DropUnused r28.1 r28.2 r40 hr40) Try.call38 rfl rfl rfl rfl rfl ?_
    refine TL_pure rfl rfl rfl rfl (op_move rfl) ?_
    refine TL_pure rfl rfl rfl rfl (op_extract rfl rfl) ?_
    refine TL_pure rfl rfl rfl rfl (op_extract rfl rfl) ?_
    refine TL_pure rfl rfl rfl rfl (op_extract rfl rfl) ?_
    refine TL_alloc 13 z42 rfl rfl rfl rfl rfl rfl rfl ?_
    refine TL_store_box sz42 rfl rfl rfl rfl rfl rfl rfl rfl rfl ?_
    refine TL_pure rfl rfl rfl rfl (op_assign rfl) ?_
    refine TL_pure rfl rfl rfl rfl (op_assign rfl) ?_
    refine TL_nil ?_
    refine T_seq ?_
    refine T_region ?_
    refine TL_pure rfl rfl rfl rfl (op_load_agg ag42 sz42 rfl rfl rfl) ?_
    refine TL_pure rfl rfl rfl rfl (op_move rfl) ?_
    obtain ⟨r47, hr47, hm⟩ := bindS hm
    refine TL_callO [(1000, 14)] (c_impl_UsedFacts r40.1 r40.2.1 r47 hr47) Try.call37 rfl rfl rfl rfl rfl rfl rfl rfl rfl rfl rfl rfl rfl ?_
    refine TL_pure rfl rfl rfl rfl (op_move rfl) ?_
    refine TL_pure rfl rfl rfl rfl (op_extract rfl rfl) ?_
    refine TL_pure rfl rfl rfl rfl (op_extract rfl rfl) ?_
    refine TL_pure rfl rfl rfl rfl (op_assign rfl) ?_
    refine TL_pure rfl rfl rfl rfl (op_assign rfl) ?_
    refine TL_nil ?_
    refine T_seq ?_
    refine T_region ?_
    refine TL_pure rfl rfl rfl rfl (op_move rfl) ?_
    obtain ⟨r51, hr51, hm⟩ := bindS hm
    refine TL_callO [(1000, 15)] (c_spec_R8Term p1 r51 hr51) Try.call39 rfl rfl rfl rfl rfl rfl rfl rfl rfl rfl rfl rfl rfl ?_
    refine TL_pure rfl rfl rfl rfl (op_move rfl) ?_
    obtain ⟨r53, hr53, hm⟩ := bindS hm
    refine TL_callO [(1000, 16)] (c_spec_R8Term p0 r53 hr53) Try.call39 rfl rfl rfl rfl rfl rfl rfl rfl rfl rfl rfl rfl rfl ?_
    refine TL_buildSliceD (ids := [15, 16]) (es := List.map a_Term [r51, r53]) 17 el39 z40 rfl rfl rfl rfl rfl rfl (by rw [hF]; intro j hj; simp only [List.mem_cons, List.not_mem_nil, or_false] at hj; rcases hj with rfl | rfl <;> rfl) rfl rfl rfl rfl rfl rfl ?_
    refine TL_pure rfl rfl rfl rfl (op_assign rfl) ?_
    refine TL_nil ?_
    refine T_seq ?_
    refine T_region ?_
    refine TL_pure rfl rfl rfl rfl (op_load_agg ag42 sz42 rfl rfl rfl) ?_
    refine TL_pure rfl rfl rfl rfl (op_move rfl) ?_
    refine TL_pure rfl rfl rfl rfl (op_move rfl) ?_
    refine TL_freeze 17 (by rw [hF]; rfl) rfl rfl rfl ?_
    obtain ⟨r59, hr59, hm⟩ := bindS hm
    refine TL_callT (c_impl_LiftProof r28.1 r28.2 [r51, r53] r59 hr59) Try.call40 rfl rfl rfl rfl rfl ?_
    refine TL_pure rfl rfl rfl rfl (op_move rfl) ?_
    refine TL_pure rfl rfl rfl rfl (op_extract rfl rfl) ?_
    refine TL_pure rfl rfl rfl rfl (op_extract rfl rfl) ?_
    refine TL_pure rfl rfl rfl rfl (op_extract rfl rfl) ?_
    refine TL_alloc 18 z42 rfl rfl rfl rfl rfl rfl rfl ?_
    refine TL_store_box sz42 rfl rfl rfl rfl rfl rfl rfl rfl rfl ?_
    refine TL_pure rfl rfl rfl rfl (op_assign rfl) ?_
    refine TL_pure rfl rfl rfl rfl (op_assign rfl) ?_
    refine TL_nil ?_
    refine T_seq ?_
    refine T_region ?_
    refine TL_pure rfl rfl rfl rfl (op_load_agg ag42 sz42 rfl rfl rfl) ?_
    refine TL_pure rfl rfl rfl rfl (op_move rfl) ?_
    obtain ⟨r66, hr66, hm⟩ := bindS hm
    refine TL_callO [(1000, 19)] (c_impl_UsedFacts r59.1 r59.2.1 r66 hr66) Try.call37 rfl rfl rfl rfl rfl rfl rfl rfl rfl rfl rfl rfl rfl ?_
    refine TL_pure rfl rfl rfl rfl (op_move rfl) ?_
    refine TL_pure rfl rfl rfl rfl (op_extract rfl rfl) ?_
    refine TL_pure rfl rfl rfl rfl (op_extract rfl rfl) ?_
    refine TL_pure rfl rfl rfl rfl (op_assign rfl) ?_
    refine TL_pure rfl rfl rfl rfl (op_assign rfl) ?_
    refine TL_nil ?_
    refine T_seq ?_
    refine T_seq ?_
    refine T_region ?_
    refine TL_pure rfl rfl rfl rfl (op_move rfl) ?_
    refine TL_pure rfl rfl rfl rfl (op_not rfl) ?_
    refine TL_pure rfl rfl rfl rfl (op_move rfl) ?_
    refine TL_join 3 (fun _ : Unit => ⟨[(5, .ptr 11 0 0), (6, .sl 5 (List.map a_Node r28.2)), (7, .ow 12), (9, .ptr 13 0 0), (10, .sl 5 (List.map a_Node r40.2.1)), (12, .ow 14), (13, .bool r47.2), (15, .ptr 18 0 0), (16, .sl 5 (List.map a_Node r59.2.1)), (17, .bool r59.2.2), (18, .ow 19), (19, .bool r66.2), (74, .bool ((!r34.2) || (!r40.2.2)))], [(11, .box [.sl 2 (List.map a_Term r28.1.Facts), .int .i64 r28.1.Goal.Const, .sl 1 (List.map a_i64 r28.1.Goal.Coeffs)]), (12, .arr ⟨false, true⟩ 1 2 (List.map a_i64 r34.1)), (13, .box [.sl 2 (List.map a_Term r40.1.Facts), .int .i64 r40.1.Goal.Const, .sl 1 (List.map a_i64 r40.1.Goal.Coeffs)]), (14, .arr ⟨false, true⟩ 1 2 (List.map a_i64 r47.1)), (18, .box [.sl 2 (List.map a_Term r59.1.Facts), .int .i64 r59.1.Goal.Const, .sl 1 (List.map a_i64 r59.1.Goal.Coeffs)]), (19, .arr ⟨false, true⟩ 1 2 (List.map a_i64 r66.1))]⟩) (fun _ => True) (fun _ _ => ?_) (fun hjj => ?_)
    · refine TL_pure rfl rfl rfl rfl (op_move rfl) ?_
      refine TL_join 3 (fun _ : Unit => ⟨[(5, .ptr 11 0 0), (6, .sl 5 (List.map a_Node r28.2)), (7, .ow 12), (9, .ptr 13 0 0), (10, .sl 5 (List.map a_Node r40.2.1)), (12, .ow 14), (15, .ptr 18 0 0), (16, .sl 5 (List.map a_Node r59.2.1)), (17, .bool r59.2.2), (18, .ow 19), (19, .bool r66.2), (78, .bool (((!r34.2) || (!r40.2.2)) || (!r47.2)))], [(11, .box [.sl 2 (List.map a_Term r28.1.Facts), .int .i64 r28.1.Goal.Const, .sl 1 (List.map a_i64 r28.1.Goal.Coeffs)]), (12, .arr ⟨false, true⟩ 1 2 (List.map a_i64 r34.1)), (13, .box [.sl 2 (List.map a_Term r40.1.Facts), .int .i64 r40.1.Goal.Const, .sl 1 (List.map a_i64 r40.1.Goal.Coeffs)]), (14, .arr ⟨false, true⟩ 1 2 (List.map a_i64 r47.1)), (18, .box [.sl 2 (List.map a_Term r59.1.Facts), .int .i64 r59.1.Goal.Const, .sl 1 (List.map a_i64 r59.1.Goal.Coeffs)]), (19, .arr ⟨false, true⟩ 1 2 (List.map a_i64 r66.1))]⟩) (fun _ => True) (fun _ _ => ?_) (fun hjj => ?_)
      · refine TL_pure rfl rfl rfl rfl (op_move rfl) ?_
        refine TL_join 3 (fun _ : Unit => ⟨[(5, .ptr 11 0 0), (6, .sl 5 (List.map a_Node r28.2)), (7, .ow 12), (9, .ptr 13 0 0), (10, .sl 5 (List.map a_Node r40.2.1)), (12, .ow 14), (15, .ptr 18 0 0), (16, .sl 5 (List.map a_Node r59.2.1)), (18, .ow 19), (19, .bool r66.2), (82, .bool ((((!r34.2) || (!r40.2.2)) || (!r47.2)) || (!r59.2.2)))], [(11, .box [.sl 2 (List.map a_Term r28.1.Facts), .int .i64 r28.1.Goal.Const, .sl 1 (List.map a_i64 r28.1.Goal.Coeffs)]), (12, .arr ⟨false, true⟩ 1 2 (List.map a_i64 r34.1)), (13, .box [.sl 2 (List.map a_Term r40.1.Facts), .int .i64 r40.1.Goal.Const, .sl 1 (List.map a_i64 r40.1.Goal.Coeffs)]), (14, .arr ⟨false, true⟩ 1 2 (List.map a_i64 r47.1)), (18, .box [.sl 2 (List.map a_Term r59.1.Facts), .int .i64 r59.1.Goal.Const, .sl 1 (List.map a_i64 r59.1.Goal.Coeffs)]), (19, .arr ⟨false, true⟩ 1 2 (List.map a_i64 r66.1))]⟩) (fun _ => True) (fun _ _ => ?_) (fun hjj => ?_)
        · refine TL_pure rfl rfl rfl rfl (op_move rfl) ?_
          refine TL_join 3 (fun _ : Unit => ⟨[(5, .ptr 11 0 0), (6, .sl 5 (List.map a_Node r28.2)), (7, .ow 12), (9, .ptr 13 0 0), (10, .sl 5 (List.map a_Node r40.2.1)), (12, .ow 14), (15, .ptr 18 0 0), (16, .sl 5 (List.map a_Node r59.2.1)), (18, .ow 19), (86, .bool (((((!r34.2) || (!r40.2.2)) || (!r47.2)) || (!r59.2.2)) || (!r66.2)))], [(11, .box [.sl 2 (List.map a_Term r28.1.Facts), .int .i64 r28.1.Goal.Const, .sl 1 (List.map a_i64 r28.1.Goal.Coeffs)]), (12, .arr ⟨false, true⟩ 1 2 (List.map a_i64 r34.1)), (13, .box [.sl 2 (List.map a_Term r40.1.Facts), .int .i64 r40.1.Goal.Const, .sl 1 (List.map a_i64 r40.1.Goal.Coeffs)]), (14, .arr ⟨false, true⟩ 1 2 (List.map a_i64 r47.1)), (18, .box [.sl 2 (List.map a_Term r59.1.Facts), .int .i64 r59.1.Goal.Const, .sl 1 (List.map a_i64 r59.1.Goal.Coeffs)]), (19, .arr ⟨false, true⟩ 1 2 (List.map a_i64 r66.1))]⟩) (fun _ => True) (fun _ _ => ?_) (fun hjj => ?_)
          · refine TL_pure rfl rfl rfl rfl (op_move rfl) ?_
            refine TL_split 87 rfl rfl rfl (fun hq => ?_) (fun hq => ?_)
            · replace hm := condT hq hm
              refine TL_pass rfl rfl rfl rfl rfl rfl rfl ?_
              refine TL_pass rfl rfl rfl rfl rfl rfl rfl ?_
              refine TL_pass rfl rfl rfl rfl rfl rfl rfl ?_
              refine TL_pass rfl rfl rfl rfl rfl rfl rfl ?_
              refine TL_pure rfl rfl rfl rfl (op_pick_true rfl rfl) ?_
              refine TL_pure rfl rfl rfl rfl (op_move rfl) ?_
              refine TL_pass rfl rfl rfl rfl rfl rfl rfl ?_
              refine TL_pass rfl rfl rfl rfl rfl rfl rfl ?_
              refine TL_pass rfl rfl rfl rfl rfl rfl rfl ?_
              refine TL_pass rfl rfl rfl rfl rfl rfl rfl ?_
              refine TL_pure rfl rfl rfl rfl (op_pick_true rfl rfl) ?_
              refine TL_pure rfl rfl rfl rfl (op_move rfl) ?_
              refine TL_pass rfl rfl rfl rfl rfl rfl rfl ?_
              refine TL_pass rfl rfl rfl rfl rfl rfl rfl ?_
              refine TL_pass rfl rfl rfl rfl rfl rfl rfl ?_
              refine TL_pass rfl rfl rfl rfl rfl rfl rfl ?_
              refine TL_pass rfl rfl rfl rfl rfl rfl rfl ?_
              refine TL_pass rfl rfl rfl rfl rfl rfl rfl ?_
              refine TL_pass rfl rfl rfl rfl rfl rfl rfl ?_
              refine TL_pass rfl rfl rfl rfl rfl rfl rfl ?_
              refine TL_pure rfl rfl rfl rfl (op_pick_true rfl rfl) ?_
              refine TL_pure rfl rfl rfl rfl (op_move rfl) ?_
              refine TL_pass rfl rfl rfl rfl rfl rfl rfl ?_
              refine TL_pass rfl rfl rfl rfl rfl rfl rfl ?_
              refine TL_pass rfl rfl rfl rfl rfl rfl rfl ?_
              refine TL_pass rfl rfl rfl rfl rfl rfl rfl ?_
              refine TL_pass rfl rfl rfl rfl rfl rfl rfl ?_
              refine TL_pure rfl rfl rfl rfl (op_pick_true rfl rfl) ?_
              refine TL_pure rfl rfl rfl rfl (op_move rfl) ?_
              refine TL_pass rfl rfl rfl rfl rfl rfl rfl ?_
              refine TL_pass rfl rfl rfl rfl rfl rfl rfl ?_
              refine TL_pass rfl rfl rfl rfl rfl rfl rfl ?_
              refine TL_pass rfl rfl rfl rfl rfl rfl rfl ?_
              refine TL_pass rfl rfl rfl rfl rfl rfl rfl ?_
              refine TL_pure rfl rfl rfl rfl (op_pick_true rfl rfl) ?_
              refine TL_nil ?_
              refine T_cond_true rfl ?_
              refine T_seq ?_
              refine T_region ?_
              refine TL_pure rfl rfl rfl rfl (op_assign rfl) ?_
              refine TL_nil ?_
              refine T_keepH [4] [] rfl rfl rfl rfl (by rw [hF]; rfl) ?_
              refine T_ret ?_
              obtain rfl := someI hm
              refine ⟨[_], [], ⟨rfl, trivial⟩, ?_, rfl, rfl, rfl, rfl⟩
              rfl
            · replace hm := condF hq hm
              refine TL_want rfl rfl ?_
              refine TL_pure rfl rfl rfl rfl (op_load_agg ag42 sz42 rfl rfl rfl) ?_
              refine TL_want rfl rfl ?_
              refine TL_pure rfl rfl rfl rfl (op_move rfl) ?_
              refine TL_want rfl rfl ?_
              obtain ⟨r90, hr90, hm⟩ := bindS hm
              refine TL_callF (c_impl_CheckProof r40.1 r40.2.1 r90 hr90) Try.call28 rfl rfl rfl rfl rfl ?_
              refine TL_want rfl rfl ?_
              refine TL_pure rfl rfl rfl rfl (op_not rfl) ?_
              refine TL_pure rfl rfl rfl rfl (op_pick_false rfl rfl) ?_
              refine TL_pure rfl rfl rfl rfl (op_move rfl) ?_
              refine TL_split 93 rfl rfl rfl (fun hq => ?_) (fun hq => ?_)
              · replace hm := condT hq hm
                refine TL_pass rfl rfl rfl rfl rfl rfl rfl ?_
                refine TL_pass rfl rfl rfl rfl rfl rfl rfl ?_
                refine TL_pass rfl rfl rfl rfl rfl rfl rfl ?_
                refine TL_pass rfl rfl rfl rfl rfl rfl rfl ?_
                refine TL_pure rfl rfl rfl rfl (op_pick_true rfl rfl) ?_
                refine TL_pure rfl rfl rfl rfl (op_move rfl) ?_
                refine TL_pass rfl rfl rfl rfl rfl rfl rfl ?_
                refine TL_pass rfl rfl rfl rfl rfl rfl rfl ?_
                refine TL_pass rfl rfl rfl rfl rfl rfl rfl ?_
                refine TL_pass rfl rfl rfl rfl rfl rfl rfl ?_
                refine TL_pass rfl rfl rfl rfl rfl rfl rfl ?_
                refine TL_pass rfl rfl rfl rfl rfl rfl rfl ?_
                refine TL_pass rfl rfl rfl rfl rfl rfl rfl ?_
                refine TL_pass rfl rfl rfl rfl rfl rfl rfl ?_
                refine TL_pure rfl rfl rfl rfl (op_pick_true rfl rfl) ?_
                refine TL_pure rfl rfl rfl rfl (op_move rfl) ?_
                refine TL_pass rfl rfl rfl rfl rfl rfl rfl ?_
                refine TL_pass rfl rfl rfl rfl rfl rfl rfl ?_
                refine TL_pass rfl rfl rfl rfl rfl rfl rfl ?_
                refine TL_pass rfl rfl rfl rfl rfl rfl rfl ?_
                refine TL_pass rfl rfl rfl rfl rfl rfl rfl ?_
                refine TL_pure rfl rfl rfl rfl (op_pick_true rfl rfl) ?_
                refine TL_pure rfl rfl rfl rfl (op_move rfl) ?_
                refine TL_pass rfl rfl rfl rfl rfl rfl rfl ?_
                refine TL_pass rfl rfl rfl rfl rfl rfl rfl ?_
                refine TL_pass rfl rfl rfl rfl rfl rfl rfl ?_
                refine TL_pass rfl rfl rfl rfl rfl rfl rfl ?_
                refine TL_pass rfl rfl rfl rfl rfl rfl rfl ?_
                refine TL_pure rfl rfl rfl rfl (op_pick_true rfl rfl) ?_
                refine TL_nil ?_
                refine T_cond_true rfl ?_
                refine T_seq ?_
                refine T_region ?_
                refine TL_pure rfl rfl rfl rfl (op_assign rfl) ?_
                refine TL_nil ?_
                refine T_keepH [4] [] rfl rfl rfl rfl (by rw [hF]; rfl) ?_
                refine T_ret ?_
                obtain rfl := someI hm
                refine ⟨[_], [], ⟨rfl, trivial⟩, ?_, rfl, rfl, rfl, rfl⟩
                rfl
              · replace hm := condF hq hm
                refine TL_want rfl rfl ?_
                refine TL_pure rfl rfl rfl rfl (op_load_agg ag42 sz42 rfl rfl rfl) ?_
                refine TL_want rfl rfl ?_
                refine TL_pure rfl rfl rfl rfl (op_move rfl) ?_
                refine TL_want rfl rfl ?_
                obtain ⟨r96, hr96, hm⟩ := bindS hm
                refine TL_callF (c_impl_CheckProof r59.1 r59.2.1 r96 hr96) Try.call28 rfl rfl rfl rfl rfl ?_
                refine TL_want rfl rfl ?_
                refine TL_pure rfl rfl rfl rfl (op_not rfl) ?_
                refine TL_pure rfl rfl rfl rfl (op_pick_false rfl rfl) ?_
                refine TL_pure rfl rfl rfl rfl (op_move rfl) ?_
                refine TL_join 9 (fun _ : Unit => ⟨[(5, .ptr 11 0 0), (6, .sl 5 (List.map a_Node r28.2)), (7, .ow 12), (9, .ptr 13 0 0), (10, .sl 5 (List.map a_Node r40.2.1)), (12, .ow 14), (16, .sl 5 (List.map a_Node r59.2.1)), (18, .ow 19), (108, .bool ((!r96) || (!decide ((r59.1.Facts.length : Int) = (w64 ((r28.1.Facts.length : Int) + (2 : Int)))))))], [(11, .box [.sl 2 (List.map a_Term r28.1.Facts), .int .i64 r28.1.Goal.Const, .sl 1 (List.map a_i64 r28.1.Goal.Coeffs)]), (12, .arr ⟨false, true⟩ 1 2 (List.map a_i64 r34.1)), (13, .box [.sl 2 (List.map a_Term r40.1.Facts), .int .i64 r40.1.Goal.Const, .sl 1 (List.map a_i64 r40.1.Goal.Coeffs)]), (14, .arr ⟨false, true⟩ 1 2 (List.map a_i64 r47.1)), (19, .arr ⟨false, true⟩ 1 2 (List.map a_i64 r66.1))]⟩) (fun _ => True) (fun _ _ => ?_) (fun hjj => ?_)
                · refine TL_pure rfl rfl rfl rfl (op_move rfl) ?_
                  refine TL_join 6 (fun _ : Unit => ⟨[(5, .ptr 11 0 0), (6, .sl 5 (List.map a_Node r28.2)), (7, .ow 12), (9, .ptr 13 0 0), (12, .ow 14), (16, .sl 5 (List.map a_Node r59.2.1)), (18, .ow 19), (115, .bool (((!r96) || (!decide ((r59.1.Facts.length : Int) = (w64 ((r28.1.Facts.length : Int) + (2 : Int)))))) || (!decide ((r40.2.1.length : Int) = (r28.2.length : Int)))))], [(11, .box [.sl 2 (List.map a_Term r28.1.Facts), .int .i64 r28.1.Goal.Const, .sl 1 (List.map a_i64 r28.1.Goal.Coeffs)]), (12, .arr ⟨false, true⟩ 1 2 (List.map a_i64 r34.1)), (13, .box [.sl 2 (List.map a_Term r40.1.Facts), .int .i64 r40.1.Goal.Const, .sl 1 (List.map a_i64 r40.1.Goal.Coeffs)]), (14, .arr ⟨false, true⟩ 1 2 (List.map a_i64 r47.1)), (19, .arr ⟨false, true⟩ 1 2 (List.map a_i64 r66.1))]⟩) (fun _ => True) (fun _ _ => ?_) (fun hjj => ?_)
                  · refine TL_pure rfl rfl rfl rfl (op_move rfl) ?_
                    refine TL_join 6 (fun _ : Unit => ⟨[(5, .ptr 11 0 0), (7, .ow 12), (9, .ptr 13 0 0), (12, .ow 14), (18, .ow 19), (122, .bool ((((!r96) || (!decide ((r59.1.Facts.length : Int) = (w64 ((r28.1.Facts.length : Int) + (2 : Int)))))) || (!decide ((r40.2.1.length : Int) = (r28.2.length : Int)))) || (!decide ((r59.2.1.length : Int) = (r28.2.length : Int)))))], [(11, .box [.sl 2 (List.map a_Term r28.1.Facts), .int .i64 r28.1.Goal.Const, .sl 1 (List.map a_i64 r28.1.Goal.Coeffs)]), (12, .arr ⟨false, true⟩ 1 2 (List.map a_i64 r34.1)), (13, .box [.sl 2 (List.map a_Term r40.1.Facts), .int .i64 r40.1.Goal.Const, .sl 1 (List.map a_i64 r40.1.Goal.Coeffs)]), (14, .arr ⟨false, true⟩ 1 2 (List.map a_i64 r47.1)), (19, .arr ⟨false, true⟩ 1 2 (List.map a_i64 r66.1))]⟩) (fun _ => True) (fun _ _ => ?_) (fun hjj => ?_)
                    · refine TL_nil ?_
                      refine T_cond rfl (fun hq => ?_) (fun hq => ?_)
                      · replace hm := condT hq hm
                        refine T_seq ?_
                        refine T_region ?_
                        refine TL_pure rfl rfl rfl rfl (op_assign rfl) ?_
                        refine TL_nil ?_
                        refine T_keepH [4] [] rfl rfl rfl rfl (by rw [hF]; rfl) ?_
                        refine T_ret ?_
                        obtain rfl := someI hm
                        refine ⟨[_], [], ⟨rfl, trivial⟩, ?_, rfl, rfl, rfl, rfl⟩
                        rfl
                      · replace hm := condF hq hm
                        refine T_skip ?_
                        refine T_seq ?_
                        refine T_region ?_
                        refine TL_pure rfl rfl rfl rfl (op_assign rfl) ?_
                        refine TL_nil ?_
                        refine T_seq ?_
                        refine T_seq ?_
                        refine T_region ?_
                        refine TL_pure rfl rfl rfl rfl (op_assign rfl) ?_
                        refine TL_nil ?_
                        refine T_block ?_
                        refine T_keepH [5, 7, 9, 12, 18, 20, 21] [11, 12, 13, 14, 19] rfl rfl rfl rfl (by rw [hF]; rfl) ?_
                        refine T_loop ?_
                        obtain ⟨u0, hl0, hm⟩ := bindS hm
                        refine TR_iter2 (m_laws_FnUnused_L0 r28 r34) (fun (s0 : Int × Int) => ⟨[(5, .ptr 11 0 0), (7, .ow 12), (9, .ptr 13 0 0), (12, .ow 14), (18, .ow 19), (20, .int .i64 s0.1), (21, .int .i64 s0.2)], [(11, .box [.sl 2 (List.map a_Term r28.1.Facts), .int .i64 r28.1.Goal.Const, .sl 1 (List.map a_i64 r28.1.Goal.Coeffs)]), (12, .arr ⟨false, true⟩ 1 2 (List.map a_i64 r34.1)), (13, .box [.sl 2 (List.map a_Term r40.1.Facts), .int .i64 r40.1.Goal.Const, .sl 1 (List.map a_i64 r40.1.Goal.Coeffs)]), (14, .arr ⟨false, true⟩ 1 2 (List.map a_i64 r47.1)), (19, .arr ⟨false, true⟩ 1 2 (List.map a_i64 r66.1))]⟩) (fun u0 => .exit 0) (fun u0 => ⟨[(7, .ow 12), (9, .ptr 13 0 0), (12, .ow 14), (18, .ow 19), (20, .int .i64 u0)], [(12, .arr ⟨false, true⟩ 1 2 (List.map a_i64 r34.1)), (13, .box [.sl 2 (List.map a_Term r40.1.Facts), .int .i64 r40.1.Goal.Const, .sl 1 (List.map a_i64 r40.1.Goal.Coeffs)]), (14, .arr ⟨false, true⟩ 1 2 (List.map a_i64 r47.1)), (19, .arr ⟨false, true⟩ 1 2 (List.map a_i64 r66.1))]⟩) (fun u0 => m_laws_FnUnused_A0 r34 r40 r47 r66 u0 = some out) hl0 hm (fun u0 hm => ?_) (fun hx0 s0 c0 hm hc0 => ?_)
                        · unfold m_laws_FnUnused_A0 at hm
                          refine T_seq ?_
                          refine T_seq ?_
                          refine T_region ?_
                          refine TL_pure rfl rfl rfl rfl (op_fieldAddr fa42_0 rfl rfl) ?_
                          refine TL_pure rfl rfl rfl rfl (op_load_one ag39 rfl rfl) ?_
                          refine TL_pure rfl rfl rfl rfl (op_lenT Try.underlying39 rfl (List.length_map _)) ?_
                          refine TL_fact (fun _ _ _ hr => RelP.slLen (i := 136) rfl hr) (fun hlen137 => ?_)
                          rw [List.length_map] at hlen137
                          refine TL_pure rfl rfl rfl rfl (op_move rfl) ?_
                          refine TL_pure rfl rfl rfl rfl (op_neq rfl rfl) ?_
                          refine TL_pure rfl rfl rfl rfl (op_move rfl) ?_
                          refine TL_join 6 (fun _ : Unit => ⟨[(7, .ow 12), (12, .ow 14), (18, .ow 19), (20, .int .i64 u0), (146, .bool ((!decide ((r40.1.Facts.length : Int) = u0)) || (!decide ((r47.1.length : Int) = (r34.1.length : Int)))))], [(12, .arr ⟨false, true⟩ 1 2 (List.map a_i64 r34.1)), (14, .arr ⟨false, true⟩ 1 2 (List.map a_i64 r47.1)), (19, .arr ⟨false, true⟩ 1 2 (List.map a_i64 r66.1))]⟩) (fun _ => True) (fun _ _ => ?_) (fun hjj => ?_)
                          · refine TL_pure rfl rfl rfl rfl (op_move rfl) ?_
                            refine TL_join 6 (fun _ : Unit => ⟨[(12, .ow 14), (20, .int .i64 u0), (153, .bool (((!decide ((r40.1.Facts.length : Int) = u0)) || (!decide ((r47.1.length : Int) = (r34.1.length : Int)))) || (!decide ((r66.1.length : Int) = (r34.1.length : Int)))))], [(14, .arr ⟨false, true⟩ 1 2 (List.map a_i64 r47.1))]⟩) (fun _ => True) (fun _ _ => ?_) (fun hjj => ?_)
                            · refine TL_nil ?_
                              refine T_cond rfl (fun hq => ?_) (fun hq => ?_)
                              · replace hm := condT hq hm
                                refine T_seq ?_
                                refine T_region ?_
                                refine TL_pure rfl rfl rfl rfl (op_assign rfl) ?_
                                refine TL_nil ?_
                                refine T_keepH [4] [] rfl rfl rfl rfl (by rw [hF]; rfl) ?_
                                refine T_ret ?_
                                obtain rfl := someI hm
                                refine ⟨[_], [], ⟨rfl, trivial⟩, ?_, rfl, rfl, rfl, rfl⟩
                                rfl
                              · replace hm := condF hq hm
                                refine T_skip ?_
                                refine T_seq ?_
                                refine T_seq ?_
                                refine T_region ?_
                                refine TL_pure rfl rfl rfl rfl (op_assign rfl) ?_
                                refine TL_nil ?_
                                refine T_block ?_
                                refine T_keepH [12, 20, 22] [14] rfl rfl rfl rfl (by rw [hF]; rfl) ?_
                                refine T_loop ?_
                                obtain ⟨u1, hl1, hm⟩ := bindS hm
                                refine TR_iter2 (m_laws_FnUnused_L1 r47 u0) (fun (s1 : Int) => ⟨[(12, .ow 14), (20, .int .i64 u0), (22, .int .i64 s1)], [(14, .arr ⟨false, true⟩ 1 2 (List.map a_i64 r47.1))]⟩) (fun u1 => match u1 with | .inl u1 => .exit 2 | .inr u1 => .ret) (fun u1 => match u1 with | .inl u1 => ⟨[], []⟩ | .inr u1 => ⟨[(4, .bool u1)], []⟩) (fun u1 => m_laws_FnUnused_A1 u1 = some out) hl1 hm (fun u1 hm => ?_) (fun hx1 s1 c1 hm hc1 => ?_)
                                · rcases u1 with u1 | u1
                                  · unfold m_laws_FnUnused_A1 at hm
                                    refine T_seq ?_
                                    refine T_region ?_
                                    refine TL_pure rfl rfl rfl rfl (op_assign rfl) ?_
                                    refine TL_nil ?_
                                    refine T_keepH [4] [] rfl rfl rfl rfl (by rw [hF]; rfl) ?_
                                    refine T_ret ?_
                                    obtain rfl := someI hm
                                    refine ⟨[_], [], ⟨rfl, trivial⟩, ?_, rfl, rfl, rfl, rfl⟩
                                    rfl
                                  · unfold m_laws_FnUnused_A1 at hm
                                    obtain rfl := someI hm
                                    refine ⟨[_], [], ⟨rfl, trivial⟩, ?_, rfl, rfl, rfl, rfl⟩
                                    rfl
                                · unfold m_laws_FnUnused_L1 at hm
                                  refine T_seq ?_
                                  refine T_seq ?_
                                  refine T_region ?_
                                  refine TL_pure rfl rfl rfl rfl (op_move rfl) ?_
                                  refine TL_pure rfl rfl rfl rfl (op_move rfl) ?_
                                  refine TL_pure rfl rfl rfl rfl (op_lss rfl rfl) ?_
                                  refine TL_nil ?_
                                  refine T_cond rfl (fun hq => ?_) (fun hq => ?_)
                                  · replace hm := condT hq hm
                                    refine T_skip ?_
                                    refine T_seq ?_
                                    refine T_block ?_
                                    refine T_seq ?_
                                    refine T_region ?_
                                    refine TL_pure rfl rfl rfl rfl (op_move rfl) ?_
                                    refine TL_pure rfl rfl rfl rfl (op_move rfl) ?_
                                    obtain ⟨r161, hr161, hm⟩ := bindS hm
                                    refine TL_callF (c_laws_r8Has r47.1 s1 r161 hr161) Try.call41 rfl rfl rfl rfl rfl ?_
                                    refine TL_pure rfl rfl rfl rfl (op_not rfl) ?_
                                    refine TL_nil ?_
                                    refine T_cond rfl (fun hq => ?_) (fun hq => ?_)
                                    · replace hm := condT hq hm
                                      refine T_seq ?_
                                      refine T_region ?_
                                      refine TL_pure rfl rfl rfl rfl (op_assign rfl) ?_
                                      refine TL_nil ?_
                                      refine T_keepH [4] [] rfl rfl rfl rfl (by rw [hF]; rfl) ?_
                                      refine T_ret ?_
                                      obtain rfl := someI hm
                                      have hn := CtlOK_out hc1
                                      exact hx1 (.inr false) hn
                                    · replace hm := condF hq hm
                                      refine T_skip ?_
                                      refine T_region ?_
                                      refine TL_pure rfl rfl rfl rfl (op_move rfl) ?_
                                      refine TL_pure rfl rfl rfl rfl (op_addW rfl rfl) ?_
                                      refine TL_pure rfl rfl rfl rfl (op_assign rfl) ?_
                                      refine TL_nil ?_
                                      refine TR_keepH [12, 20, 22] [14] rfl rfl rfl rfl (by rw [hF]; rfl) ?_
                                      obtain rfl := someI hm
                                      have hn := CtlOK_next hc1
                                      exact hn _ rfl
                                  · replace hm := condF hq hm
                                    refine T_keepH [] [] rfl rfl rfl rfl (by rw [hF]; rfl) ?_
                                    refine T_exit ?_
                                    obtain rfl := someI hm
                                    have hn := CtlOK_out hc1
                                    exact hx1 (.inl ()) hn
                            · refine TL_split 147 rfl rfl rfl (fun hq => ?_) (fun hq => ?_)
                              · refine TL_pass rfl rfl rfl rfl rfl rfl rfl ?_
                                refine TL_pass rfl rfl rfl rfl rfl rfl rfl ?_
                                refine TL_pass rfl rfl rfl rfl rfl rfl rfl ?_
                                refine TL_pass rfl rfl rfl rfl rfl rfl rfl ?_
                                refine TL_pass rfl rfl rfl rfl rfl rfl rfl ?_
                                refine TL_pure rfl rfl rfl rfl (op_pick_true rfl rfl) ?_
                                refine TL_keepH [12, 20, 153] [14] rfl rfl rfl rfl (by rw [hF]; rfl) ?_
                                exact TL_cast _ (by first | (rw [hq, Bool.true_or]; done) | (rw [hq]; rfl)) (hjj () trivial)
                              · refine TL_want rfl rfl ?_
                                refine TL_pure rfl rfl rfl rfl (op_move rfl) ?_
                                refine TL_want rfl rfl ?_
                                refine TL_pure rfl rfl rfl rfl (op_lenO Try.underlying32 rfl rfl (List.length_map _)) ?_
                                refine TL_fact (fun _ _ _ hr => RelP.owLen (id := 19) rfl hr) (fun hlen149 => ?_)
                                rw [List.length_map] at hlen149
                                refine TL_want rfl rfl ?_
                                refine TL_pure rfl rfl rfl rfl (op_move rfl) ?_
                                refine TL_want rfl rfl ?_
                                refine TL_pure rfl rfl rfl rfl (op_lenO Try.underlying32 rfl rfl (List.length_map _)) ?_
                                refine TL_fact (fun _ _ _ hr => RelP.owLen (id := 12) rfl hr) (fun hlen151 => ?_)
                                rw [List.length_map] at hlen151
                                refine TL_want rfl rfl ?_
                                refine TL_pure rfl rfl rfl rfl (op_neq rfl rfl) ?_
                                refine TL_pure rfl rfl rfl rfl (op_pick_false rfl rfl) ?_
                                refine TL_keepH [12, 20, 153] [14] rfl rfl rfl rfl (by rw [hF]; rfl) ?_
                                exact TL_cast _ (by first | (rw [hq, Bool.false_or]; done) | (rw [hq]; rfl)) (hjj () trivial)
                          · refine TL_split 140 rfl rfl rfl (fun hq => ?_) (fun hq => ?_)
                            · refine TL_pass rfl rfl rfl rfl rfl rfl rfl ?_
                              refine TL_pass rfl rfl rfl rfl rfl rfl rfl ?_
                              refine TL_pass rfl rfl rfl rfl rfl rfl rfl ?_
                              refine TL_pass rfl rfl rfl rfl rfl rfl rfl ?_
                              refine TL_pass rfl rfl rfl rfl rfl rfl rfl ?_
                              refine TL_pure rfl rfl rfl rfl (op_pick_true rfl rfl) ?_
                              refine TL_keepH [7, 12, 18, 20, 146] [12, 14, 19] rfl rfl rfl rfl (by rw [hF]; rfl) ?_
                              exact TL_cast _ (by first | (rw [hq, Bool.true_or]; done) | (rw [hq]; rfl)) (hjj () trivial)
                            · refine TL_want rfl rfl ?_
                              refine TL_pure rfl rfl rfl rfl (op_move rfl) ?_
                              refine TL_want rfl rfl ?_
                              refine TL_pure rfl rfl rfl rfl (op_lenO Try.underlying32 rfl rfl (List.length_map _)) ?_
                              refine TL_fact (fun _ _ _ hr => RelP.owLen (id := 14) rfl hr) (fun hlen142 => ?_)
                              rw [List.length_map] at hlen142
                              refine TL_want rfl rfl ?_
                              refine TL_pure rfl rfl rfl rfl (op_move rfl) ?_
                              refine TL_want rfl rfl ?_
                              refine TL_pure rfl rfl rfl rfl (op_lenO Try.underlying32 rfl rfl (List.length_map _)) ?_
                              refine TL_fact (fun _ _ _ hr => RelP.owLen (id := 12) rfl hr) (fun hlen144 => ?_)
                              rw [List.length_map] at hlen144
                              refine TL_want rfl rfl ?_
                              refine TL_pure rfl rfl rfl rfl (op_neq rfl rfl) ?_
                              refine TL_pure rfl rfl rfl rfl (op_pick_false rfl rfl) ?_
                              refine TL_keepH [7, 12, 18, 20, 146] [12, 14, 19] rfl rfl rfl rfl (by rw [hF]; rfl) ?_
                              exact TL_cast _ (by first | (rw [hq, Bool.false_or]; done) | (rw [hq]; rfl)) (hjj () trivial)
                        · unfold m_laws_FnUnused_L0 at hm
                          refine T_seq ?_
                          refine T_seq ?_
                          refine T_region ?_
                          refine TL_pure rfl rfl rfl rfl (op_move rfl) ?_
                          refine TL_pure rfl rfl rfl rfl (op_fieldAddr fa42_0 rfl rfl) ?_
                          refine TL_pure rfl rfl rfl rfl (op_load_one ag39 rfl rfl) ?_
                          refine TL_pure rfl rfl rfl rfl (op_lenT Try.underlying39 rfl (List.length_map _)) ?_
                          refine TL_fact (fun _ _ _ hr => RelP.slLen (i := 125) rfl hr) (fun hlen126 => ?_)
                          rw [List.length_map] at hlen126
                          refine TL_pure rfl rfl rfl rfl (op_lss rfl rfl) ?_
                          refine TL_nil ?_
                          refine T_cond rfl (fun hq => ?_) (fun hq => ?_)
                          · replace hm := condT hq hm
                            refine T_skip ?_
                            refine T_seq ?_
                            refine T_block ?_
                            refine T_seq ?_
                            refine T_region ?_
                            refine TL_pure rfl rfl rfl rfl (op_move rfl) ?_
                            refine TL_pure rfl rfl rfl rfl (op_move rfl) ?_
                            obtain ⟨r132, hr132, hm⟩ := bindS hm
                            refine TL_callF (c_laws_r8Has r34.1 s0.2 r132 hr132) Try.call41 rfl rfl rfl rfl rfl ?_
                            refine TL_nil ?_
                            refine T_cond rfl (fun hq => ?_) (fun hq => ?_)
                            · replace hm := condT hq hm
                              refine T_region ?_
                              refine TL_pure rfl rfl rfl rfl (op_move rfl) ?_
                              refine TL_pure rfl rfl rfl rfl (op_addW rfl rfl) ?_
                              refine TL_pure rfl rfl rfl rfl (op_assign rfl) ?_
                              refine TL_nil ?_
                              refine T_region ?_
                              refine TL_pure rfl rfl rfl rfl (op_move rfl) ?_
                              refine TL_pure rfl rfl rfl rfl (op_addW rfl rfl) ?_
                              refine TL_pure rfl rfl rfl rfl (op_assign rfl) ?_
                              refine TL_nil ?_
                              refine TR_keepH [5, 7, 9, 12, 18, 20, 21] [11, 12, 13, 14, 19] rfl rfl rfl rfl (by rw [hF]; rfl) ?_
                              obtain rfl := someI hm
                              have hn := CtlOK_next hc0
                              exact hn _ rfl
                            · replace hm := condF hq hm
                              refine T_skip ?_
                              refine T_region ?_
                              refine TL_pure rfl rfl rfl rfl (op_move rfl) ?_
                              refine TL_pure rfl rfl rfl rfl (op_addW rfl rfl) ?_
                              refine TL_pure rfl rfl rfl rfl (op_assign rfl) ?_
                              refine TL_nil ?_
                              refine TR_keepH [5, 7, 9, 12, 18, 20, 21] [11, 12, 13, 14, 19] rfl rfl rfl rfl (by rw [hF]; rfl) ?_
                              obtain rfl := someI hm
                              have hn := CtlOK_next hc0
                              exact hn _ rfl
                          · replace hm := condF hq hm
                            refine T_keepH [7, 9, 12, 18, 20] [12, 13, 14, 19] rfl rfl rfl rfl (by rw [hF]; rfl) ?_
                            refine T_exit ?_
                            obtain rfl := someI hm
                            have hn := CtlOK_out hc0
                            exact hx0 s0.1 hn
                    · refine TL_split 116 rfl rfl rfl (fun hq => ?_) (fun hq => ?_)
                      · refine TL_pass rfl rfl rfl rfl rfl rfl rfl ?_
                        refine TL_pass rfl rfl rfl rfl rfl rfl rfl ?_
                        refine TL_pass rfl rfl rfl rfl rfl rfl rfl ?_
                        refine TL_pass rfl rfl rfl rfl rfl rfl rfl ?_
                        refine TL_pass rfl rfl rfl rfl rfl rfl rfl ?_
                        refine TL_pure rfl rfl rfl rfl (op_pick_true rfl rfl) ?_
                        refine TL_keepH [5, 7, 9, 12, 18, 122] [11, 12, 13, 14, 19] rfl rfl rfl rfl (by rw [hF]; rfl) ?_
                        exact TL_cast _ (by first | (rw [hq, Bool.true_or]; done) | (rw [hq]; rfl)) (hjj () trivial)
                      · refine TL_want rfl rfl ?_
                        refine TL_pure rfl rfl rfl rfl (op_move rfl) ?_
                        refine TL_want rfl rfl ?_
                        refine TL_pure rfl rfl rfl rfl (op_lenT Try.underlying24 rfl (List.length_map _)) ?_
                        refine TL_fact (fun _ _ _ hr => RelP.slLen (i := 117) rfl hr) (fun hlen118 => ?_)
                        rw [List.length_map] at hlen118
                        refine TL_want rfl rfl ?_
                        refine TL_pure rfl rfl rfl rfl (op_move rfl) ?_
                        refine TL_want rfl rfl ?_
                        refine TL_pure rfl rfl rfl rfl (op_lenT Try.underlying24 rfl (List.length_map _)) ?_
                        refine TL_fact (fun _ _ _ hr => RelP.slLen (i := 119) rfl hr) (fun hlen120 => ?_)
                        rw [List.length_map] at hlen120
                        refine TL_want rfl rfl ?_
                        refine TL_pure rfl rfl rfl rfl (op_neq rfl rfl) ?_
                        refine TL_pure rfl rfl rfl rfl (op_pick_false rfl rfl) ?_
                        refine TL_keepH [5, 7, 9, 12, 18, 122] [11, 12, 13, 14, 19] rfl rfl rfl rfl (by rw [hF]; rfl) ?_
                        exact TL_cast _ (by first | (rw [hq, Bool.false_or]; done) | (rw [hq]; rfl)) (hjj () trivial)
                  · refine TL_split 109 rfl rfl rfl (fun hq => ?_) (fun hq => ?_)
                    · refine TL_pass rfl rfl rfl rfl rfl rfl rfl ?_
                      refine TL_pass rfl rfl rfl rfl rfl rfl rfl ?_
                      refine TL_pass rfl rfl rfl rfl rfl rfl rfl ?_
                      refine TL_pass rfl rfl rfl rfl rfl rfl rfl ?_
                      refine TL_pass rfl rfl rfl rfl rfl rfl rfl ?_
                      refine TL_pure rfl rfl rfl rfl (op_pick_true rfl rfl) ?_
                      refine TL_keepH [5, 6, 7, 9, 12, 16, 18, 115] [11, 12, 13, 14, 19] rfl rfl rfl rfl (by rw [hF]; rfl) ?_
                      exact TL_cast _ (by first | (rw [hq, Bool.true_or]; done) | (rw [hq]; rfl)) (hjj () trivial)
                    · refine TL_want rfl rfl ?_
                      refine TL_pure rfl rfl rfl rfl (op_move rfl) ?_
                      refine TL_want rfl rfl ?_
                      refine TL_pure rfl rfl rfl rfl (op_lenT Try.underlying24 rfl (List.length_map _)) ?_
                      refine TL_fact (fun _ _ _ hr => RelP.slLen (i := 110) rfl hr) (fun hlen111 => ?_)
                      rw [List.length_map] at hlen111
                      refine TL_want rfl rfl ?_
                      refine TL_pure rfl rfl rfl rfl (op_move rfl) ?_
                      refine TL_want rfl rfl ?_
                      refine TL_pure rfl rfl rfl rfl (op_lenT Try.underlying24 rfl (List.length_map _)) ?_
                      refine TL_fact (fun _ _ _ hr => RelP.slLen (i := 112) rfl hr) (fun hlen113 => ?_)
                      rw [List.length_map] at hlen113
                      refine TL_want rfl rfl ?_
                      refine TL_pure rfl rfl rfl rfl (op_neq rfl rfl) ?_
                      refine TL_pure rfl rfl rfl rfl (op_pick_false rfl rfl) ?_
                      refine TL_keepH [5, 6, 7, 9, 12, 16, 18, 115] [11, 12, 13, 14, 19] rfl rfl rfl rfl (by rw [hF]; rfl) ?_
                      exact TL_cast _ (by first | (rw [hq, Bool.false_or]; done) | (rw [hq]; rfl)) (hjj () trivial)
                · refine TL_split 99 rfl rfl rfl (fun hq => ?_) (fun hq => ?_)
                  · refine TL_pass rfl rfl rfl rfl rfl rfl rfl ?_
                    refine TL_pass rfl rfl rfl rfl rfl rfl rfl ?_
                    refine TL_pass rfl rfl rfl rfl rfl rfl rfl ?_
                    refine TL_pass rfl rfl rfl rfl rfl rfl rfl ?_
                    refine TL_pass rfl rfl rfl rfl rfl rfl rfl ?_
                    refine TL_pass rfl rfl rfl rfl rfl rfl rfl ?_
                    refine TL_pass rfl rfl rfl rfl rfl rfl rfl ?_
                    refine TL_pass rfl rfl rfl rfl rfl rfl rfl ?_
                    refine TL_pure rfl rfl rfl rfl (op_pick_true rfl rfl) ?_
                    refine TL_keepH [5, 6, 7, 9, 10, 12, 16, 18, 108] [11, 12, 13, 14, 19] rfl rfl rfl rfl (by rw [hF]; rfl) ?_
                    exact TL_cast _ (by first | (rw [hq, Bool.true_or]; done) | (rw [hq]; rfl)) (hjj () trivial)
                  · refine TL_want rfl rfl ?_
                    refine TL_pure rfl rfl rfl rfl (op_fieldAddr fa42_0 rfl rfl) ?_
                    refine TL_want rfl rfl ?_
                    refine TL_pure rfl rfl rfl rfl (op_load_one ag39 rfl rfl) ?_
                    refine TL_want rfl rfl ?_
                    refine TL_pure rfl rfl rfl rfl (op_lenT Try.underlying39 rfl (List.length_map _)) ?_
                    refine TL_fact (fun _ _ _ hr => RelP.slLen (i := 101) rfl hr) (fun hlen102 => ?_)
                    rw [List.length_map] at hlen102
                    refine TL_want rfl rfl ?_
                    refine TL_pure rfl rfl rfl rfl (op_fieldAddr fa42_0 rfl rfl) ?_
                    refine TL_want rfl rfl ?_
                    refine TL_pure rfl rfl rfl rfl (op_load_one ag39 rfl rfl) ?_
                    refine TL_want rfl rfl ?_
                    refine TL_pure rfl rfl rfl rfl (op_lenT Try.underlying39 rfl (List.length_map _)) ?_
                    refine TL_fact (fun _ _ _ hr => RelP.slLen (i := 104) rfl hr) (fun hlen105 => ?_)
                    rw [List.length_map] at hlen105
                    refine TL_want rfl rfl ?_
                    refine TL_pure rfl rfl rfl rfl (op_addW rfl rfl) ?_
                    refine TL_want rfl rfl ?_
                    refine TL_pure rfl rfl rfl rfl (op_neq rfl rfl) ?_
                    refine TL_pure rfl rfl rfl rfl (op_pick_false rfl rfl) ?_
                    refine TL_keepH [5, 6, 7, 9, 10, 12, 16, 18, 108] [11, 12, 13, 14, 19] rfl rfl rfl rfl (by rw [hF]; rfl) ?_
                    exact TL_cast _ (by first | (rw [hq, Bool.false_or]; done) | (rw [hq]; rfl)) (hjj () trivial)
          · refine TL_split 83 rfl rfl rfl (fun hq => ?_) (fun hq => ?_)
            · refine TL_pass rfl rfl rfl rfl rfl rfl rfl ?_
              refine TL_pass rfl rfl rfl rfl rfl rfl rfl ?_
              refine TL_pure rfl rfl rfl rfl (op_pick_true rfl rfl) ?_
              refine TL_keepH [5, 6, 7, 9, 10, 12, 15, 16, 18, 86] [11, 12, 13, 14, 18, 19] rfl rfl rfl rfl (by rw [hF]; rfl) ?_
              exact TL_cast _ (by first | (rw [hq, Bool.true_or]; done) | (rw [hq]; rfl)) (hjj () trivial)
            · refine TL_want rfl rfl ?_
              refine TL_pure rfl rfl rfl rfl (op_move rfl) ?_
              refine TL_want rfl rfl ?_
              refine TL_pure rfl rfl rfl rfl (op_not rfl) ?_
              refine TL_pure rfl rfl rfl rfl (op_pick_false rfl rfl) ?_
              refine TL_keepH [5, 6, 7, 9, 10, 12, 15, 16, 18, 86] [11, 12, 13, 14, 18, 19] rfl rfl rfl rfl (by rw [hF]; rfl) ?_
              exact TL_cast _ (by first | (rw [hq, Bool.false_or]; done) | (rw [hq]; rfl)) (hjj () trivial)
        · refine TL_split 79 rfl rfl rfl (fun hq => ?_) (fun hq => ?_)
          · refine TL_pass rfl rfl rfl rfl rfl rfl rfl ?_
            refine TL_pass rfl rfl rfl rfl rfl rfl rfl ?_
            refine TL_pure rfl rfl rfl rfl (op_pick_true rfl rfl) ?_
            refine TL_keepH [5, 6, 7, 9, 10, 12, 15, 16, 18, 19, 82] [11, 12, 13, 14, 18, 19] rfl rfl rfl rfl (by rw [hF]; rfl) ?_
            exact TL_cast _ (by first | (rw [hq, Bool.true_or]; done) | (rw [hq]; rfl)) (hjj () trivial)
          · refine TL_want rfl rfl ?_
            refine TL_pure rfl rfl rfl rfl (op_move rfl) ?_
            refine TL_want rfl rfl ?_
            refine TL_pure rfl rfl rfl rfl (op_not rfl) ?_
            refine TL_pure rfl rfl rfl rfl (op_pick_false rfl rfl) ?_
            refine TL_keepH [5, 6, 7, 9, 10, 12, 15, 16, 18, 19, 82] [11, 12, 13, 14, 18, 19] rfl rfl rfl rfl (by rw [hF]; rfl) ?_
            exact TL_cast _ (by first | (rw [hq, Bool.false_or]; done) | (rw [hq]; rfl)) (hjj () trivial)
      · refine TL_split 75 rfl rfl rfl (fun hq => ?_) (fun hq => ?_)
        · refine TL_pass rfl rfl rfl rfl rfl rfl rfl ?_
          refine TL_pass rfl rfl rfl rfl rfl rfl rfl ?_
          refine TL_pure rfl rfl rfl rfl (op_pick_true rfl rfl) ?_
          refine TL_keepH [5, 6, 7, 9, 10, 12, 15, 16, 17, 18, 19, 78] [11, 12, 13, 14, 18, 19] rfl rfl rfl rfl (by rw [hF]; rfl) ?_
          exact TL_cast _ (by first | (rw [hq, Bool.true_or]; done) | (rw [hq]; rfl)) (hjj () trivial)
        · refine TL_want rfl rfl ?_
          refine TL_pure rfl rfl rfl rfl (op_move rfl) ?_
          refine TL_want rfl rfl ?_
          refine TL_pure rfl rfl rfl rfl (op_not rfl) ?_
          refine TL_pure rfl rfl rfl rfl (op_pick_false rfl rfl) ?_
          refine TL_keepH [5, 6, 7, 9, 10, 12, 15, 16, 17, 18, 19, 78] [11, 12, 13, 14, 18, 19] rfl rfl rfl rfl (by rw [hF]; rfl) ?_
          exact TL_cast _ (by first | (rw [hq, Bool.false_or]; done) | (rw [hq]; rfl)) (hjj () trivial)
    · refine TL_split 71 rfl rfl rfl (fun hq => ?_) (fun hq => ?_)
      · refine TL_pass rfl rfl rfl rfl rfl rfl rfl ?_
        refine TL_pass rfl rfl rfl rfl rfl rfl rfl ?_
        refine TL_pure rfl rfl rfl rfl (op_pick_true rfl rfl) ?_
        refine TL_keepH [5, 6, 7, 9, 10, 12, 13, 15, 16, 17, 18, 19, 74] [11, 12, 13, 14, 18, 19] rfl rfl rfl rfl (by rw [hF]; rfl) ?_
        exact TL_cast _ (by first | (rw [hq, Bool.true_or]; done) | (rw [hq]; rfl)) (hjj () trivial)
      · refine TL_want rfl rfl ?_
        refine TL_pure rfl rfl rfl rfl (op_move rfl) ?_
        refine TL_want rfl rfl ?_
        refine TL_pure rfl rfl rfl rfl (op_not rfl) ?_
        refine TL_pure rfl rfl rfl rfl (op_pick_false rfl rfl) ?_
        refine TL_keepH [5, 6, 7, 9, 10, 12, 13, 15, 16, 17, 18, 19, 74] [11, 12, 13, 14, 18, 19] rfl rfl rfl rfl (by rw [hF]; rfl) ?_
        exact TL_cast _ (by first | (rw [hq, Bool.false_or]; done) | (rw [hq]; rfl)) (hjj () trivial)
end Go.Mod
