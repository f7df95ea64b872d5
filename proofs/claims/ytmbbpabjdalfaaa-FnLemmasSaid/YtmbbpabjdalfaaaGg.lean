import Derived.Test.YtmbbpabjdalfaaaGf
namespace Go.Mod
open Go Go.AM Go.Proofs
set_option linter.unusedVariables false
set_option linter.unusedSimpArgs false
set_option maxRecDepth 100000
set_option maxHeartbeats 8000000
theorem c_impl_ContextOf (p0 : Sequent) (out : (List Term) × Bool) (hm : m_impl_ContextOf p0 = some out) : ACall Try.prog 64 [.agg [.sl 2 (List.map a_Term p0.Facts), .int .i64 p0.Goal.Const, .sl 1 (List.map a_i64 p0.Goal.Coeffs)]] [] (.tup [.ow 1000, .bool out.2]) [(1000, .arr ⟨false, true⟩ 2 40 (List.map a_Term out.1))] := by
  refine ACall.intro Try.func64 rfl Try.ntmps64 rfl (fun F hF => ?_)
  unfold m_impl_ContextOf at hm
  refine T_seq ?_
  refine T_region ?_
  refine TL_box 11 rfl rfl rfl rfl rfl rfl rfl ?_
  refine TL_pure rfl rfl rfl rfl (op_assign rfl) ?_
  refine TL_pure rfl rfl rfl rfl (op_assign rfl) ?_
  refine TL_nil ?_
  refine T_seq ?_
  refine T_seq ?_
  refine T_region ?_
  refine TL_pure rfl rfl rfl rfl (op_load_agg ag42 sz42 rfl rfl rfl) ?_
  obtain ⟨r5, hr5, hm⟩ := bindS hm
  refine TL_callF (c_impl_ValidSequent p0 r5 hr5) Try.call74 rfl rfl rfl rfl rfl ?_
  refine TL_pure rfl rfl rfl rfl (op_not rfl) ?_
  refine TL_pure rfl rfl rfl rfl (op_move rfl) ?_
  refine TL_split 7 rfl rfl rfl (fun hq => ?_) (fun hq => ?_)
  · replace hm := condT hq hm
    refine TL_pass rfl rfl rfl rfl rfl rfl rfl ?_
    refine TL_pass rfl rfl rfl rfl rfl rfl rfl ?_
    refine TL_pass rfl rfl rfl rfl rfl rfl rfl ?_
    refine TL_pass rfl rfl rfl rfl rfl rfl rfl ?_
    refine TL_pass rfl rfl rfl rfl rfl rfl rfl ?_
    refine TL_pure rfl rfl rfl rfl (op_pick_true rfl rfl) ?_
    refine TL_nil ?_
    refine T_cond_true rfl ?_
    refine T_seq ?_
    refine T_region ?_
    refine TL_pure rfl rfl rfl rfl (op_assign rfl) ?_
    refine TL_pure rfl rfl rfl rfl (op_assign rfl) ?_
    refine TL_nil ?_
    refine T_ownNil 2 13 ⟨false, true⟩ 40 rfl rfl (sz := 2) rfl rfl rfl ?_
    refine T_keepH [2, 3] [13] rfl rfl rfl rfl (by rw [hF]; rfl) ?_
    refine T_ren [(13, 1000)] rfl rfl rfl (by rw [hF]; rfl) ?_
    refine T_ret ?_
    obtain rfl := someI hm
    refine ⟨[_, _], [1000], ⟨rfl, rfl, trivial⟩, ?_, rfl, rfl, rfl, rfl⟩
    rfl
  · replace hm := condF hq hm
    refine TL_want rfl rfl ?_
    refine TL_pure rfl rfl rfl rfl (op_fieldAddr fa42_1 rfl rfl) ?_
    refine TL_want rfl rfl ?_
    refine TL_pure rfl rfl rfl rfl (op_load_agg ag40 sz40 rfl rfl rfl) ?_
    refine TL_want rfl rfl ?_
    obtain ⟨r10, hr10, hm⟩ := bindS hm
    refine TL_callO [(1000, 14)] (c_impl_Term_opposite p0.Goal r10 hr10) Try.call112 rfl rfl rfl rfl rfl rfl rfl rfl rfl rfl rfl rfl rfl ?_
    refine TL_want rfl rfl ?_
    obtain ⟨r11, hr11, hm⟩ := bindS hm
    refine TL_callF (c_impl_ValidTerm r10 r11 hr11) Try.call79 rfl rfl rfl rfl rfl ?_
    refine TL_want rfl rfl ?_
    refine TL_pure rfl rfl rfl rfl (op_not rfl) ?_
    refine TL_pure rfl rfl rfl rfl (op_pick_false rfl rfl) ?_
    refine TL_nil ?_
    refine T_cond rfl (fun hq => ?_) (fun hq => ?_)
    · replace hm := condT hq hm
      refine T_seq ?_
      refine T_region ?_
      refine TL_pure rfl rfl rfl rfl (op_assign rfl) ?_
      refine TL_pure rfl rfl rfl rfl (op_assign rfl) ?_
      refine TL_nil ?_
      refine T_ownNil 2 15 ⟨false, true⟩ 40 rfl rfl (sz := 2) rfl rfl rfl ?_
      refine T_keepH [2, 3] [15] rfl rfl rfl rfl (by rw [hF]; rfl) ?_
      refine T_ren [(15, 1000)] rfl rfl rfl (by rw [hF]; rfl) ?_
      refine T_ret ?_
      obtain rfl := someI hm
      refine ⟨[_, _], [1000], ⟨rfl, rfl, trivial⟩, ?_, rfl, rfl, rfl, rfl⟩
      rfl
    · replace hm := condF hq hm
      refine T_skip ?_
      refine T_seq ?_
      refine T_drawZ [7, 8] mix (by kernel_rfl) rfl ?_
      obtain ⟨r16, hr16, hm⟩ := bindS hm
      obtain ⟨r19, hr19, hm⟩ := bindS hm
      obtain ⟨r20, hr20, hm⟩ := bindS hm
      obtain ⟨q22, hq22, hm⟩ := bindS hm
      refine TZ_pure 0 (by kernel_rfl) rfl rfl rfl rfl rfl (op_fieldAddr fa42_0 rfl rfl) ?_
      refine TZ_pure 3 (by kernel_rfl) rfl rfl rfl rfl rfl (op_fieldAddr fa42_1 rfl rfl) ?_
      refine TZ_cut 7 [true, true, true, true, false, false, false, false, false, false, false] ⟨[(0, .agg [.sl 2 (List.map a_Term p0.Facts), .int .i64 p0.Goal.Const, .sl 1 (List.map a_i64 p0.Goal.Coeffs)]), (1, .ptr 11 0 0), (2, .snil), (3, .bool false), (4, .agg [.sl 2 (List.map a_Term p0.Facts), .int .i64 p0.Goal.Const, .sl 1 (List.map a_i64 p0.Goal.Coeffs)]), (5, .bool r5), (6, .bool (!r5)), (7, .bool false), (8, .ptr 11 0 1), (9, .agg [.int .i64 p0.Goal.Const, .sl 1 (List.map a_i64 p0.Goal.Coeffs)]), (10, .agg [.int .i64 r10.Const, .ow 14]), (11, .bool r11), (12, .bool (!r11)), (13, .bool (!r11)), (14, .ptr 11 0 0), (15, .sl 2 (List.map a_Term p0.Facts)), (16, .ow 256), (17, .ptr 11 0 1)], [(11, .box [.sl 2 (List.map a_Term p0.Facts), .int .i64 p0.Goal.Const, .sl 1 (List.map a_i64 p0.Goal.Coeffs)]), (14, .arr ⟨false, true⟩ 1 2 (List.map a_i64 r10.Coeffs)), (256, .arr ⟨false, true⟩ 2 40 (List.map a_Term r16))]⟩ ?_ (fun hS15_0 => ?_)
      · refine TZ_one 4 (by kernel_rfl) rfl ?_
        refine TL_pure rfl rfl rfl rfl (op_load_agg ag40 sz40 rfl rfl rfl) ?_
        refine TL_nil ?_
        refine TZ_one 5 (by kernel_rfl) rfl ?_
        refine TL_callO [(1000, 496)] (c_impl_Term_opposite p0.Goal r19 hr19) Try.call112 rfl rfl rfl rfl rfl rfl rfl rfl rfl rfl rfl rfl rfl ?_
        refine TL_nil ?_
        refine TZ_one 6 (by kernel_rfl) rfl ?_
        refine TL_callO [(1000, 576)] (c_impl_Term_own r19 r20 hr20) Try.call89 rfl rfl rfl rfl rfl rfl rfl rfl rfl rfl rfl rfl rfl ?_
        refine TL_nil ?_
        refine TZ_one 7 (by kernel_rfl) rfl ?_
        refine TL_buildSliceD (ids := [576]) (es := List.map a_Term [r20]) 656 el39 z40 rfl rfl rfl rfl rfl rfl (by rw [hF]; intro j hj; simp only [List.mem_cons, List.not_mem_nil, or_false] at hj; rcases hj with rfl <;> rfl) rfl rfl rfl rfl rfl rfl ?_
        refine TL_nil ?_
        refine TZ_one 8 (by kernel_rfl) rfl ?_
        refine TL_appendDT (f := a_Term) (a := r16) (b := [r20]) el39 z40 rfl rfl rfl rfl rfl rfl rfl rfl (by rw [hF]; rfl) (capI_spec hq22) rfl rfl rfl rfl rfl ?_
        refine TL_nil ?_
        refine TZ_pure 9 (by kernel_rfl) rfl rfl rfl rfl rfl (op_assign rfl) ?_
        refine TZ_pure 10 (by kernel_rfl) rfl rfl rfl rfl rfl (op_assign rfl) ?_
        refine TZ_done (by kernel_rfl) ?_
        refine T_keepH [2, 3] [256] rfl rfl rfl rfl (by rw [hF]; rfl) ?_
        refine T_ren [(256, 1000)] rfl rfl rfl (by rw [hF]; rfl) ?_
        refine T_ret ?_
        obtain rfl := someI hm
        refine ⟨[_, _], [1000], ⟨rfl, rfl, trivial⟩, ?_, rfl, rfl, rfl, rfl⟩
        rfl
      refine TZ_cut 7 [true, true, false, true, true, false, false, false, false, false, false] ⟨[(0, .agg [.sl 2 (List.map a_Term p0.Facts), .int .i64 p0.Goal.Const, .sl 1 (List.map a_i64 p0.Goal.Coeffs)]), (1, .ptr 11 0 0), (2, .snil), (3, .bool false), (4, .agg [.sl 2 (List.map a_Term p0.Facts), .int .i64 p0.Goal.Const, .sl 1 (List.map a_i64 p0.Goal.Coeffs)]), (5, .bool r5), (6, .bool (!r5)), (7, .bool false), (8, .ptr 11 0 1), (9, .agg [.int .i64 p0.Goal.Const, .sl 1 (List.map a_i64 p0.Goal.Coeffs)]), (10, .agg [.int .i64 r10.Const, .ow 14]), (11, .bool r11), (12, .bool (!r11)), (13, .bool (!r11)), (14, .ptr 11 0 0), (15, .sl 2 (List.map a_Term p0.Facts)), (17, .ptr 11 0 1), (18, .agg [.int .i64 p0.Goal.Const, .sl 1 (List.map a_i64 p0.Goal.Coeffs)])], [(11, .box [.sl 2 (List.map a_Term p0.Facts), .int .i64 p0.Goal.Const, .sl 1 (List.map a_i64 p0.Goal.Coeffs)]), (14, .arr ⟨false, true⟩ 1 2 (List.map a_i64 r10.Coeffs))]⟩ ?_ (fun hS15_1 => ?_)
      · refine TZ_one 2 (by kernel_rfl) rfl ?_
        refine TL_callO [(1000, 256)] (c_impl_ownTerms p0.Facts r16 hr16) Try.call78 rfl rfl rfl rfl rfl rfl rfl rfl rfl rfl rfl rfl rfl ?_
        refine TL_nil ?_
        refine TZ_one 5 (by kernel_rfl) rfl ?_
        refine TL_callO [(1000, 496)] (c_impl_Term_opposite p0.Goal r19 hr19) Try.call112 rfl rfl rfl rfl rfl rfl rfl rfl rfl rfl rfl rfl rfl ?_
        refine TL_nil ?_
        refine TZ_one 6 (by kernel_rfl) rfl ?_
        refine TL_callO [(1000, 576)] (c_impl_Term_own r19 r20 hr20) Try.call89 rfl rfl rfl rfl rfl rfl rfl rfl rfl rfl rfl rfl rfl ?_
        refine TL_nil ?_
        refine TZ_one 7 (by kernel_rfl) rfl ?_
        refine TL_buildSliceD (ids := [576]) (es := List.map a_Term [r20]) 656 el39 z40 rfl rfl rfl rfl rfl rfl (by rw [hF]; intro j hj; simp only [List.mem_cons, List.not_mem_nil, or_false] at hj; rcases hj with rfl <;> rfl) rfl rfl rfl rfl rfl rfl ?_
        refine TL_nil ?_
        refine TZ_one 8 (by kernel_rfl) rfl ?_
        refine TL_appendDT (f := a_Term) (a := r16) (b := [r20]) el39 z40 rfl rfl rfl rfl rfl rfl rfl rfl (by rw [hF]; rfl) (capI_spec hq22) rfl rfl rfl rfl rfl ?_
        refine TL_nil ?_
        refine TZ_pure 9 (by kernel_rfl) rfl rfl rfl rfl rfl (op_assign rfl) ?_
        refine TZ_pure 10 (by kernel_rfl) rfl rfl rfl rfl rfl (op_assign rfl) ?_
        refine TZ_done (by kernel_rfl) ?_
        refine T_keepH [2, 3] [256] rfl rfl rfl rfl (by rw [hF]; rfl) ?_
        refine T_ren [(256, 1000)] rfl rfl rfl (by rw [hF]; rfl) ?_
        refine T_ret ?_
        obtain rfl := someI hm
        refine ⟨[_, _], [1000], ⟨rfl, rfl, trivial⟩, ?_, rfl, rfl, rfl, rfl⟩
        rfl
      refine TZ_cut 8 [true, true, false, true, false, false, false, false, false, false, false] ⟨[(0, .agg [.sl 2 (List.map a_Term p0.Facts), .int .i64 p0.Goal.Const, .sl 1 (List.map a_i64 p0.Goal.Coeffs)]), (1, .ptr 11 0 0), (2, .snil), (3, .bool false), (4, .agg [.sl 2 (List.map a_Term p0.Facts), .int .i64 p0.Goal.Const, .sl 1 (List.map a_i64 p0.Goal.Coeffs)]), (5, .bool r5), (6, .bool (!r5)), (7, .bool false), (8, .ptr 11 0 1), (9, .agg [.int .i64 p0.Goal.Const, .sl 1 (List.map a_i64 p0.Goal.Coeffs)]), (10, .agg [.int .i64 r10.Const, .ow 14]), (11, .bool r11), (12, .bool (!r11)), (13, .bool (!r11)), (14, .ptr 11 0 0), (15, .sl 2 (List.map a_Term p0.Facts)), (17, .ptr 11 0 1)], [(11, .box [.sl 2 (List.map a_Term p0.Facts), .int .i64 p0.Goal.Const, .sl 1 (List.map a_i64 p0.Goal.Coeffs)]), (14, .arr ⟨false, true⟩ 1 2 (List.map a_i64 r10.Coeffs))]⟩ ?_ (fun hS15_2 => ?_)
      · refine TZ_each [2, 4] (by kernel_rfl) rfl ?_
        refine ⟨?_, ?_⟩
        · refine ⟨_, rfl, ?_⟩
          refine TL_callO [(1000, 256)] (c_impl_ownTerms p0.Facts r16 hr16) Try.call78 rfl rfl rfl rfl rfl rfl rfl rfl rfl rfl rfl rfl rfl ?_
          refine TL_nil ?_
          refine TZ_keepH [0, 1, 2, 3, 4, 5, 6, 7, 8, 9, 10, 11, 12, 13, 14, 15, 16, 17] [11, 14, 256] rfl rfl rfl rfl (by rw [hF]; rfl) ?_
          exact hS15_0
        · refine ⟨_, rfl, ?_⟩
          refine TL_pure rfl rfl rfl rfl (op_load_agg ag40 sz40 rfl rfl rfl) ?_
          refine TL_nil ?_
          refine TZ_keepH [0, 1, 2, 3, 4, 5, 6, 7, 8, 9, 10, 11, 12, 13, 14, 15, 17, 18] [11, 14] rfl rfl rfl rfl (by rw [hF]; rfl) ?_
          exact hS15_1
      refine TZ_cut 8 [true, false, false, true, true, false, false, false, false, false, false] ⟨[(0, .agg [.sl 2 (List.map a_Term p0.Facts), .int .i64 p0.Goal.Const, .sl 1 (List.map a_i64 p0.Goal.Coeffs)]), (1, .ptr 11 0 0), (2, .snil), (3, .bool false), (4, .agg [.sl 2 (List.map a_Term p0.Facts), .int .i64 p0.Goal.Const, .sl 1 (List.map a_i64 p0.Goal.Coeffs)]), (5, .bool r5), (6, .bool (!r5)), (7, .bool false), (8, .ptr 11 0 1), (9, .agg [.int .i64 p0.Goal.Const, .sl 1 (List.map a_i64 p0.Goal.Coeffs)]), (10, .agg [.int .i64 r10.Const, .ow 14]), (11, .bool r11), (12, .bool (!r11)), (13, .bool (!r11)), (14, .ptr 11 0 0), (17, .ptr 11 0 1), (18, .agg [.int .i64 p0.Goal.Const, .sl 1 (List.map a_i64 p0.Goal.Coeffs)])], [(11, .box [.sl 2 (List.map a_Term p0.Facts), .int .i64 p0.Goal.Const, .sl 1 (List.map a_i64 p0.Goal.Coeffs)]), (14, .arr ⟨false, true⟩ 1 2 (List.map a_i64 r10.Coeffs))]⟩ ?_ (fun hS15_3 => ?_)
      · refine TZ_one 1 (by kernel_rfl) rfl ?_
        refine TL_pure rfl rfl rfl rfl (op_load_one ag39 rfl rfl) ?_
        refine TL_nil ?_
        refine TZ_one 2 (by kernel_rfl) rfl ?_
        refine TL_callO [(1000, 256)] (c_impl_ownTerms p0.Facts r16 hr16) Try.call78 rfl rfl rfl rfl rfl rfl rfl rfl rfl rfl rfl rfl rfl ?_
        refine TL_nil ?_
        refine TZ_one 5 (by kernel_rfl) rfl ?_
        refine TL_callO [(1000, 496)] (c_impl_Term_opposite p0.Goal r19 hr19) Try.call112 rfl rfl rfl rfl rfl rfl rfl rfl rfl rfl rfl rfl rfl ?_
        refine TL_nil ?_
        refine TZ_one 6 (by kernel_rfl) rfl ?_
        refine TL_callO [(1000, 576)] (c_impl_Term_own r19 r20 hr20) Try.call89 rfl rfl rfl rfl rfl rfl rfl rfl rfl rfl rfl rfl rfl ?_
        refine TL_nil ?_
        refine TZ_one 7 (by kernel_rfl) rfl ?_
        refine TL_buildSliceD (ids := [576]) (es := List.map a_Term [r20]) 656 el39 z40 rfl rfl rfl rfl rfl rfl (by rw [hF]; intro j hj; simp only [List.mem_cons, List.not_mem_nil, or_false] at hj; rcases hj with rfl <;> rfl) rfl rfl rfl rfl rfl rfl ?_
        refine TL_nil ?_
        refine TZ_one 8 (by kernel_rfl) rfl ?_
        refine TL_appendDT (f := a_Term) (a := r16) (b := [r20]) el39 z40 rfl rfl rfl rfl rfl rfl rfl rfl (by rw [hF]; rfl) (capI_spec hq22) rfl rfl rfl rfl rfl ?_
        refine TL_nil ?_
        refine TZ_pure 9 (by kernel_rfl) rfl rfl rfl rfl rfl (op_assign rfl) ?_
        refine TZ_pure 10 (by kernel_rfl) rfl rfl rfl rfl rfl (op_assign rfl) ?_
        refine TZ_done (by kernel_rfl) ?_
        refine T_keepH [2, 3] [256] rfl rfl rfl rfl (by rw [hF]; rfl) ?_
        refine T_ren [(256, 1000)] rfl rfl rfl (by rw [hF]; rfl) ?_
        refine T_ret ?_
        obtain rfl := someI hm
        refine ⟨[_, _], [1000], ⟨rfl, rfl, trivial⟩, ?_, rfl, rfl, rfl, rfl⟩
        rfl
      refine TZ_each [1, 4] (by kernel_rfl) rfl ?_
      refine ⟨?_, ?_⟩
      · refine ⟨_, rfl, ?_⟩
        refine TL_pure rfl rfl rfl rfl (op_load_one ag39 rfl rfl) ?_
        refine TL_nil ?_
        refine TZ_keepH [0, 1, 2, 3, 4, 5, 6, 7, 8, 9, 10, 11, 12, 13, 14, 15, 17] [11, 14] rfl rfl rfl rfl (by rw [hF]; rfl) ?_
        exact hS15_2
      · refine ⟨_, rfl, ?_⟩
        refine TL_pure rfl rfl rfl rfl (op_load_agg ag40 sz40 rfl rfl rfl) ?_
        refine TL_nil ?_
        refine TZ_keepH [0, 1, 2, 3, 4, 5, 6, 7, 8, 9, 10, 11, 12, 13, 14, 17, 18] [11, 14] rfl rfl rfl rfl (by rw [hF]; rfl) ?_
        exact hS15_3
theorem c_impl_Term_isZero (p0 : Term) (out : Bool) (hm : m_impl_Term_isZero p0 = some out) : ACall Try.prog 131 [.agg [.int .i64 p0.Const, .sl 1 (List.map a_i64 p0.Coeffs)]] [] (.bool out) [] := by
  refine ACall.intro Try.func131 rfl Try.ntmps131 rfl (fun F hF => ?_)
  unfold m_impl_Term_isZero at hm
  refine T_seq ?_
  refine T_region ?_
  refine TL_box 11 rfl rfl rfl rfl rfl rfl rfl ?_
  refine TL_pure rfl rfl rfl rfl (op_assign rfl) ?_
  refine TL_nil ?_
  refine T_seq ?_
  refine T_region ?_
  refine TL_pure rfl rfl rfl rfl (op_fieldAddr fa40_0 rfl rfl) ?_
  refine TL_pure rfl rfl rfl rfl (op_load_one ag2 rfl rfl) ?_
  refine TL_pure rfl rfl rfl rfl (op_eql rfl rfl) ?_
  refine TL_pure rfl rfl rfl rfl (op_move rfl) ?_
  refine TL_join 5 (fun _ : Unit => ⟨[(11, .bool ((decide (p0.Const = (0 : Int))) && (decide ((p0.Coeffs.length : Int) = (0 : Int)))))], []⟩) (fun _ => True) (fun _ _ => ?_) (fun hjj => ?_)
  · refine TL_pure rfl rfl rfl rfl (op_assign rfl) ?_
    refine TL_nil ?_
    refine T_keepH [2] [] rfl rfl rfl rfl (by rw [hF]; rfl) ?_
    refine T_ret ?_
    obtain rfl := someI hm
    refine ⟨[_], [], ⟨rfl, trivial⟩, ?_, rfl, rfl, rfl, rfl⟩
    rfl
  · refine TL_split 6 rfl rfl rfl (fun hq => ?_) (fun hq => ?_)
    · refine TL_want rfl rfl ?_
      refine TL_pure rfl rfl rfl rfl (op_fieldAddr fa40_1 rfl rfl) ?_
      refine TL_want rfl rfl ?_
      refine TL_pure rfl rfl rfl rfl (op_load_one ag32 rfl rfl) ?_
      refine TL_want rfl rfl ?_
      refine TL_pure rfl rfl rfl rfl (op_lenT Try.underlying32 rfl (List.length_map _)) ?_
      refine TL_fact (fun _ _ _ hr => RelP.slLen (i := 8) rfl hr) (fun hlen9 => ?_)
      rw [List.length_map] at hlen9
      refine TL_want rfl rfl ?_
      refine TL_pure rfl rfl rfl rfl (op_eql rfl rfl) ?_
      refine TL_pure rfl rfl rfl rfl (op_pick_true rfl rfl) ?_
      refine TL_keepH [11] [] rfl rfl rfl rfl (by rw [hF]; rfl) ?_
      exact TL_cast _ (by first | (rw [hq, Bool.true_and]; done) | (rw [hq]; rfl)) (hjj () trivial)
    · refine TL_pass rfl rfl rfl rfl rfl rfl rfl ?_
      refine TL_pass rfl rfl rfl rfl rfl rfl rfl ?_
      refine TL_pass rfl rfl rfl rfl rfl rfl rfl ?_
      refine TL_pass rfl rfl rfl rfl rfl rfl rfl ?_
      refine TL_pure rfl rfl rfl rfl (op_pick_false rfl rfl) ?_
      refine TL_keepH [11] [] rfl rfl rfl rfl (by rw [hF]; rfl) ?_
      exact TL_cast _ (by first | (rw [hq, Bool.false_and]; done) | (rw [hq]; rfl)) (hjj () trivial)
theorem c_impl_subproofs (p0 : Node) (out : Int) (hm : m_impl_subproofs p0 = some out) : ACall Try.prog 105 [.agg [.int .i64 p0.Kind, .int .i64 p0.Fact, .int .i64 p0.Term.Const, .sl 1 (List.map a_i64 p0.Term.Coeffs), .sl 1 (List.map a_i64 p0.Multipliers)]] [] (.int .i64 out) [] := by
  refine ACall.intro Try.func105 rfl Try.ntmps105 rfl (fun F hF => ?_)
  unfold m_impl_subproofs at hm
  refine T_seq ?_
  refine T_region ?_
  refine TL_box 11 rfl rfl rfl rfl rfl rfl rfl ?_
  refine TL_pure rfl rfl rfl rfl (op_assign rfl) ?_
  refine TL_nil ?_
  refine T_seq ?_
  refine T_drawZ [] mix (by kernel_rfl) rfl ?_
  obtain ⟨r12, hr12, hm⟩ := bindS hm
  refine TZ_pure 0 (by kernel_rfl) rfl rfl rfl rfl rfl (op_fieldAddr fa62_1 rfl rfl) ?_
  refine TZ_pure 1 (by kernel_rfl) rfl rfl rfl rfl rfl (op_load_one ag2 rfl rfl) ?_
  refine TZ_pure 2 (by kernel_rfl) rfl rfl rfl rfl rfl (op_eql rfl rfl) ?_
  refine TZ_pure 3 (by kernel_rfl) rfl rfl rfl rfl rfl (op_fieldAddr fa62_2 rfl rfl) ?_
  refine TZ_pure 4 (by kernel_rfl) rfl rfl rfl rfl rfl (op_load_agg ag40 sz40 rfl rfl rfl) ?_
  refine TZ_pure 6 (by kernel_rfl) rfl rfl rfl rfl rfl (op_fieldAddr fa62_3 rfl rfl) ?_
  refine TZ_pure 7 (by kernel_rfl) rfl rfl rfl rfl rfl (op_load_one ag32 rfl rfl) ?_
  refine TZ_pure 8 (by kernel_rfl) rfl rfl rfl rfl rfl (op_lenT Try.underlying32 rfl (List.length_map _)) ?_
  refine TZ_fact (fun _ _ _ hr => RelP.slLen (i := 14) rfl hr) (fun hlen15 => ?_)
  rw [List.length_map] at hlen15
  refine TZ_pure 9 (by kernel_rfl) rfl rfl rfl rfl rfl (op_eql rfl rfl) ?_
  refine TZ_one 5 (by kernel_rfl) rfl ?_
  refine TL_callF (c_impl_Term_isZero p0.Term r12 hr12) Try.call131 rfl rfl rfl rfl rfl ?_
  refine TL_nil ?_
  refine TZ_pure 10 (by kernel_rfl) rfl rfl rfl rfl rfl (op_assign rfl) ?_
  refine TZ_pure 11 (by kernel_rfl) rfl rfl rfl rfl rfl (op_assign rfl) ?_
  refine TZ_pure 12 (by kernel_rfl) rfl rfl rfl rfl rfl (op_assign rfl) ?_
  refine TZ_done (by kernel_rfl) ?_
  refine T_seq ?_
  refine T_region ?_
  refine TL_pure rfl rfl rfl rfl (op_assign rfl) ?_
  refine TL_nil ?_
  refine T_seq ?_
  refine T_seq ?_
  refine T_region ?_
  refine TL_pure rfl rfl rfl rfl (op_fieldAddr fa62_0 rfl rfl) ?_
  refine TL_pure rfl rfl rfl rfl (op_load_one ag2 rfl rfl) ?_
  refine TL_nil ?_
  refine T_block ?_
  refine T_seq ?_
  refine T_region ?_
  refine TL_pure rfl rfl rfl rfl (op_eql rfl rfl) ?_
  refine TL_pure rfl rfl rfl rfl (op_assign rfl) ?_
  refine TL_nil ?_
  refine T_cond rfl (fun hq => ?_) (fun hq => ?_)
  · replace hm := condT hq hm
    refine T_seq ?_
    refine T_region ?_
    refine TL_pure rfl rfl rfl rfl (op_move rfl) ?_
    refine TL_pure rfl rfl rfl rfl (op_move rfl) ?_
    refine TL_join 2 (fun _ : Unit => ⟨[(1, .ptr 11 0 0), (6, .int .i64 (-1 : Int)), (24, .bool ((decide (p0.Fact = (0 : Int))) && r12))], [(11, .box [.int .i64 p0.Kind, .int .i64 p0.Fact, .int .i64 p0.Term.Const, .sl 1 (List.map a_i64 p0.Term.Coeffs), .sl 1 (List.map a_i64 p0.Multipliers)])]⟩) (fun _ => True) (fun _ _ => ?_) (fun hjj => ?_)
    · refine TL_pure rfl rfl rfl rfl (op_move rfl) ?_
      refine TL_join 5 (fun _ : Unit => ⟨[(1, .ptr 11 0 0), (6, .int .i64 (-1 : Int)), (30, .bool (((decide (p0.Fact = (0 : Int))) && r12) && (decide ((p0.Multipliers.length : Int) ≤ (20 : Int)))))], [(11, .box [.int .i64 p0.Kind, .int .i64 p0.Fact, .int .i64 p0.Term.Const, .sl 1 (List.map a_i64 p0.Term.Coeffs), .sl 1 (List.map a_i64 p0.Multipliers)])]⟩) (fun _ => True) (fun _ _ => ?_) (fun hjj => ?_)
      · refine TL_pure rfl rfl rfl rfl (op_move rfl) ?_
        refine TL_split 31 rfl rfl rfl (fun hq => ?_) (fun hq => ?_)
        · replace hm := condT hq hm
          refine TL_want rfl rfl ?_
          refine TL_pure rfl rfl rfl rfl (op_fieldAddr fa62_3 rfl rfl) ?_
          refine TL_want rfl rfl ?_
          refine TL_pure rfl rfl rfl rfl (op_load_one ag32 rfl rfl) ?_
          refine TL_want rfl rfl ?_
          obtain ⟨r34, hr34, hm⟩ := bindS hm
          refine TL_callF (c_impl_allWithin p0.Multipliers (0 : Int) (1000000 : Int) r34 hr34) Try.call117 rfl rfl rfl rfl rfl ?_
          refine TL_pure rfl rfl rfl rfl (op_pick_true rfl rfl) ?_
          refine TL_nil ?_
          refine T_cond rfl (fun hq => ?_) (fun hq => ?_)
          · replace hm := condT hq hm
            refine T_region ?_
            refine TL_pure rfl rfl rfl rfl (op_assign rfl) ?_
            refine TL_nil ?_
            refine T_seq ?_
            refine T_region ?_
            refine TL_pure rfl rfl rfl rfl (op_move rfl) ?_
            refine TL_pure rfl rfl rfl rfl (op_assign rfl) ?_
            refine TL_nil ?_
            refine T_keepH [2] [] rfl rfl rfl rfl (by rw [hF]; rfl) ?_
            refine T_ret ?_
            obtain rfl := someI hm
            refine ⟨[_], [], ⟨rfl, trivial⟩, ?_, rfl, rfl, rfl, rfl⟩
            rfl
          · replace hm := condF hq hm
            refine T_skip ?_
            refine T_seq ?_
            refine T_region ?_
            refine TL_pure rfl rfl rfl rfl (op_move rfl) ?_
            refine TL_pure rfl rfl rfl rfl (op_assign rfl) ?_
            refine TL_nil ?_
            refine T_keepH [2] [] rfl rfl rfl rfl (by rw [hF]; rfl) ?_
            refine T_ret ?_
            obtain rfl := someI hm
            refine ⟨[_], [], ⟨rfl, trivial⟩, ?_, rfl, rfl, rfl, rfl⟩
            rfl
        · replace hm := condF hq hm
          refine TL_pass rfl rfl rfl rfl rfl rfl rfl ?_
          refine TL_pass rfl rfl rfl rfl rfl rfl rfl ?_
          refine TL_pass rfl rfl rfl rfl rfl rfl rfl ?_
          refine TL_pure rfl rfl rfl rfl (op_pick_false rfl rfl) ?_
          refine TL_nil ?_
          refine T_cond_false rfl ?_
          refine T_skip ?_
          refine T_seq ?_
          refine T_region ?_
          refine TL_pure rfl rfl rfl rfl (op_move rfl) ?_
          refine TL_pure rfl rfl rfl rfl (op_assign rfl) ?_
          refine TL_nil ?_
          refine T_keepH [2] [] rfl rfl rfl rfl (by rw [hF]; rfl) ?_
          refine T_ret ?_
          obtain rfl := someI hm
          refine ⟨[_], [], ⟨rfl, trivial⟩, ?_, rfl, rfl, rfl, rfl⟩
          rfl
      · refine TL_split 25 rfl rfl rfl (fun hq => ?_) (fun hq => ?_)
        · refine TL_want rfl rfl ?_
          refine TL_pure rfl rfl rfl rfl (op_fieldAddr fa62_3 rfl rfl) ?_
          refine TL_want rfl rfl ?_
          refine TL_pure rfl rfl rfl rfl (op_load_one ag32 rfl rfl) ?_
          refine TL_want rfl rfl ?_
          refine TL_pure rfl rfl rfl rfl (op_lenT Try.underlying32 rfl (List.length_map _)) ?_
          refine TL_want rfl rfl ?_
          refine TL_pure rfl rfl rfl rfl (op_leq rfl rfl) ?_
          refine TL_pure rfl rfl rfl rfl (op_pick_true rfl rfl) ?_
          refine TL_keepH [1, 6, 30] [11] rfl rfl rfl rfl (by rw [hF]; rfl) ?_
          exact TL_cast _ (by first | (rw [hq, Bool.true_and]; done) | (rw [hq]; rfl)) (hjj () trivial)
        · refine TL_pass rfl rfl rfl rfl rfl rfl rfl ?_
          refine TL_pass rfl rfl rfl rfl rfl rfl rfl ?_
          refine TL_pass rfl rfl rfl rfl rfl rfl rfl ?_
          refine TL_pass rfl rfl rfl rfl rfl rfl rfl ?_
          refine TL_pure rfl rfl rfl rfl (op_pick_false rfl rfl) ?_
          refine TL_keepH [1, 6, 30] [11] rfl rfl rfl rfl (by rw [hF]; rfl) ?_
          exact TL_cast _ (by first | (rw [hq, Bool.false_and]; done) | (rw [hq]; rfl)) (hjj () trivial)
    · refine TL_split 22 rfl rfl rfl (fun hq => ?_) (fun hq => ?_)
      · refine TL_want rfl rfl ?_
        refine TL_pure rfl rfl rfl rfl (op_move rfl) ?_
        refine TL_pure rfl rfl rfl rfl (op_pick_true rfl rfl) ?_
        refine TL_keepH [1, 6, 24] [11] rfl rfl rfl rfl (by rw [hF]; rfl) ?_
        exact TL_cast _ (by first | (rw [hq, Bool.true_and]; done) | (rw [hq]; rfl)) (hjj () trivial)
      · refine TL_pass rfl rfl rfl rfl rfl rfl rfl ?_
        refine TL_pure rfl rfl rfl rfl (op_pick_false rfl rfl) ?_
        refine TL_keepH [1, 6, 24] [11] rfl rfl rfl rfl (by rw [hF]; rfl) ?_
        exact TL_cast _ (by first | (rw [hq, Bool.false_and]; done) | (rw [hq]; rfl)) (hjj () trivial)
  · replace hm := condF hq hm
    refine T_seq ?_
    refine T_region ?_
    refine TL_pure rfl rfl rfl rfl (op_eql rfl rfl) ?_
    refine TL_pure rfl rfl rfl rfl (op_assign rfl) ?_
    refine TL_nil ?_
    refine T_cond rfl (fun hq => ?_) (fun hq => ?_)
    · replace hm := condT hq hm
      refine T_seq ?_
      refine T_region ?_
      refine TL_pure rfl rfl rfl rfl (op_move rfl) ?_
      refine TL_pure rfl rfl rfl rfl (op_move rfl) ?_
      refine TL_join 2 (fun _ : Unit => ⟨[(1, .ptr 11 0 0), (6, .int .i64 (-1 : Int)), (41, .bool ((decide (p0.Fact = (0 : Int))) && (decide ((p0.Multipliers.length : Int) = (0 : Int)))))], [(11, .box [.int .i64 p0.Kind, .int .i64 p0.Fact, .int .i64 p0.Term.Const, .sl 1 (List.map a_i64 p0.Term.Coeffs), .sl 1 (List.map a_i64 p0.Multipliers)])]⟩) (fun _ => True) (fun _ _ => ?_) (fun hjj => ?_)
      · refine TL_pure rfl rfl rfl rfl (op_move rfl) ?_
        refine TL_split 42 rfl rfl rfl (fun hq => ?_) (fun hq => ?_)
        · replace hm := condT hq hm
          refine TL_want rfl rfl ?_
          refine TL_pure rfl rfl rfl rfl (op_fieldAddr fa62_2 rfl rfl) ?_
          refine TL_want rfl rfl ?_
          refine TL_pure rfl rfl rfl rfl (op_load_agg ag40 sz40 rfl rfl rfl) ?_
          refine TL_want rfl rfl ?_
          obtain ⟨r45, hr45, hm⟩ := bindS hm
          refine TL_callF (c_impl_ValidTerm p0.Term r45 hr45) Try.call79 rfl rfl rfl rfl rfl ?_
          refine TL_pure rfl rfl rfl rfl (op_pick_true rfl rfl) ?_
          refine TL_nil ?_
          refine T_cond rfl (fun hq => ?_) (fun hq => ?_)
          · replace hm := condT hq hm
            refine T_region ?_
            refine TL_pure rfl rfl rfl rfl (op_assign rfl) ?_
            refine TL_nil ?_
            refine T_seq ?_
            refine T_region ?_
            refine TL_pure rfl rfl rfl rfl (op_move rfl) ?_
            refine TL_pure rfl rfl rfl rfl (op_assign rfl) ?_
            refine TL_nil ?_
            refine T_keepH [2] [] rfl rfl rfl rfl (by rw [hF]; rfl) ?_
            refine T_ret ?_
            obtain rfl := someI hm
            refine ⟨[_], [], ⟨rfl, trivial⟩, ?_, rfl, rfl, rfl, rfl⟩
            rfl
          · replace hm := condF hq hm
            refine T_skip ?_
            refine T_seq ?_
            refine T_region ?_
            refine TL_pure rfl rfl rfl rfl (op_move rfl) ?_
            refine TL_pure rfl rfl rfl rfl (op_assign rfl) ?_
            refine TL_nil ?_
            refine T_keepH [2] [] rfl rfl rfl rfl (by rw [hF]; rfl) ?_
            refine T_ret ?_
            obtain rfl := someI hm
            refine ⟨[_], [], ⟨rfl, trivial⟩, ?_, rfl, rfl, rfl, rfl⟩
            rfl
        · replace hm := condF hq hm
          refine TL_pass rfl rfl rfl rfl rfl rfl rfl ?_
          refine TL_pass rfl rfl rfl rfl rfl rfl rfl ?_
          refine TL_pass rfl rfl rfl rfl rfl rfl rfl ?_
          refine TL_pure rfl rfl rfl rfl (op_pick_false rfl rfl) ?_
          refine TL_nil ?_
          refine T_cond_false rfl ?_
          refine T_skip ?_
          refine T_seq ?_
          refine T_region ?_
          refine TL_pure rfl rfl rfl rfl (op_move rfl) ?_
          refine TL_pure rfl rfl rfl rfl (op_assign rfl) ?_
          refine TL_nil ?_
          refine T_keepH [2] [] rfl rfl rfl rfl (by rw [hF]; rfl) ?_
          refine T_ret ?_
          obtain rfl := someI hm
          refine ⟨[_], [], ⟨rfl, trivial⟩, ?_, rfl, rfl, rfl, rfl⟩
          rfl
      · refine TL_split 39 rfl rfl rfl (fun hq => ?_) (fun hq => ?_)
        · refine TL_want rfl rfl ?_
          refine TL_pure rfl rfl rfl rfl (op_move rfl) ?_
          refine TL_pure rfl rfl rfl rfl (op_pick_true rfl rfl) ?_
          refine TL_keepH [1, 6, 41] [11] rfl rfl rfl rfl (by rw [hF]; rfl) ?_
          exact TL_cast _ (by first | (rw [hq, Bool.true_and]; done) | (rw [hq]; rfl)) (hjj () trivial)
        · refine TL_pass rfl rfl rfl rfl rfl rfl rfl ?_
          refine TL_pure rfl rfl rfl rfl (op_pick_false rfl rfl) ?_
          refine TL_keepH [1, 6, 41] [11] rfl rfl rfl rfl (by rw [hF]; rfl) ?_
          exact TL_cast _ (by first | (rw [hq, Bool.false_and]; done) | (rw [hq]; rfl)) (hjj () trivial)
    · replace hm := condF hq hm
      refine T_seq ?_
      refine T_region ?_
      refine TL_pure rfl rfl rfl rfl (op_eql rfl rfl) ?_
      refine TL_pure rfl rfl rfl rfl (op_assign rfl) ?_
      refine TL_nil ?_
      refine T_cond rfl (fun hq => ?_) (fun hq => ?_)
      · replace hm := condT hq hm
        refine T_seq ?_
        refine T_region ?_
        refine TL_pure rfl rfl rfl rfl (op_fieldAddr fa62_1 rfl rfl) ?_
        refine TL_pure rfl rfl rfl rfl (op_load_one ag2 rfl rfl) ?_
        obtain ⟨r51, hr51, hm⟩ := bindS hm
        refine TL_callF (c_impl_within p0.Fact (0 : Int) (19 : Int) r51 hr51) Try.call103 rfl rfl rfl rfl rfl ?_
        refine TL_pure rfl rfl rfl rfl (op_move rfl) ?_
        refine TL_join 2 (fun _ : Unit => ⟨[(5, .bool (decide ((p0.Multipliers.length : Int) = (0 : Int)))), (6, .int .i64 (-1 : Int)), (54, .bool (r51 && r12))], []⟩) (fun _ => True) (fun _ _ => ?_) (fun hjj => ?_)
        · refine TL_pure rfl rfl rfl rfl (op_move rfl) ?_
          refine TL_join 2 (fun _ : Unit => ⟨[(6, .int .i64 (-1 : Int)), (57, .bool ((r51 && r12) && (decide ((p0.Multipliers.length : Int) = (0 : Int)))))], []⟩) (fun _ => True) (fun _ _ => ?_) (fun hjj => ?_)
          · refine TL_nil ?_
            refine T_cond rfl (fun hq => ?_) (fun hq => ?_)
            · replace hm := condT hq hm
              refine T_region ?_
              refine TL_pure rfl rfl rfl rfl (op_assign rfl) ?_
              refine TL_nil ?_
              refine T_seq ?_
              refine T_region ?_
              refine TL_pure rfl rfl rfl rfl (op_move rfl) ?_
              refine TL_pure rfl rfl rfl rfl (op_assign rfl) ?_
              refine TL_nil ?_
              refine T_keepH [2] [] rfl rfl rfl rfl (by rw [hF]; rfl) ?_
              refine T_ret ?_
              obtain rfl := someI hm
              refine ⟨[_], [], ⟨rfl, trivial⟩, ?_, rfl, rfl, rfl, rfl⟩
              rfl
            · replace hm := condF hq hm
              refine T_skip ?_
              refine T_seq ?_
              refine T_region ?_
              refine TL_pure rfl rfl rfl rfl (op_move rfl) ?_
              refine TL_pure rfl rfl rfl rfl (op_assign rfl) ?_
              refine TL_nil ?_
              refine T_keepH [2] [] rfl rfl rfl rfl (by rw [hF]; rfl) ?_
              refine T_ret ?_
              obtain rfl := someI hm
              refine ⟨[_], [], ⟨rfl, trivial⟩, ?_, rfl, rfl, rfl, rfl⟩
              rfl
          · refine TL_split 55 rfl rfl rfl (fun hq => ?_) (fun hq => ?_)
            · refine TL_want rfl rfl ?_
              refine TL_pure rfl rfl rfl rfl (op_move rfl) ?_
              refine TL_pure rfl rfl rfl rfl (op_pick_true rfl rfl) ?_
              refine TL_keepH [6, 57] [] rfl rfl rfl rfl (by rw [hF]; rfl) ?_
              exact TL_cast _ (by first | (rw [hq, Bool.true_and]; done) | (rw [hq]; rfl)) (hjj () trivial)
            · refine TL_pass rfl rfl rfl rfl rfl rfl rfl ?_
              refine TL_pure rfl rfl rfl rfl (op_pick_false rfl rfl) ?_
              refine TL_keepH [6, 57] [] rfl rfl rfl rfl (by rw [hF]; rfl) ?_
              exact TL_cast _ (by first | (rw [hq, Bool.false_and]; done) | (rw [hq]; rfl)) (hjj () trivial)
        · refine TL_split 52 rfl rfl rfl (fun hq => ?_) (fun hq => ?_)
          · refine TL_want rfl rfl ?_
            refine TL_pure rfl rfl rfl rfl (op_move rfl) ?_
            refine TL_pure rfl rfl rfl rfl (op_pick_true rfl rfl) ?_
            refine TL_keepH [5, 6, 54] [] rfl rfl rfl rfl (by rw [hF]; rfl) ?_
            exact TL_cast _ (by first | (rw [hq, Bool.true_and]; done) | (rw [hq]; rfl)) (hjj () trivial)
          · refine TL_pass rfl rfl rfl rfl rfl rfl rfl ?_
            refine TL_pure rfl rfl rfl rfl (op_pick_false rfl rfl) ?_
            refine TL_keepH [5, 6, 54] [] rfl rfl rfl rfl (by rw [hF]; rfl) ?_
            exact TL_cast _ (by first | (rw [hq, Bool.false_and]; done) | (rw [hq]; rfl)) (hjj () trivial)
      · replace hm := condF hq hm
        refine T_skip ?_
        refine T_seq ?_
        refine T_region ?_
        refine TL_pure rfl rfl rfl rfl (op_move rfl) ?_
        refine TL_pure rfl rfl rfl rfl (op_assign rfl) ?_
        refine TL_nil ?_
        refine T_keepH [2] [] rfl rfl rfl rfl (by rw [hF]; rfl) ?_
        refine T_ret ?_
        obtain rfl := someI hm
        refine ⟨[_], [], ⟨rfl, trivial⟩, ?_, rfl, rfl, rfl, rfl⟩
        rfl
theorem c_impl_behindProof_F (rec_impl_behindProof : (List Node) → Int → Option (Int × Int × Bool)) (hrec_impl_behindProof : ∀ (p0 : List Node) (p1 : Int) (out : Int × Int × Bool), rec_impl_behindProof p0 p1 = some out → ACall Try.prog 51 [.sl 5 (List.map a_Node p0), .int .i64 p1] [] (.tup [.int .i64 out.1, .int .i64 out.2.1, .bool out.2.2]) []) (p0 : List Node) (p1 : Int) (out : Int × Int × Bool) (hm : m_impl_behindProof_F rec_impl_behindProof p0 p1 = some out) : ACall Try.prog 51 [.sl 5 (List.map a_Node p0), .int .i64 p1] [] (.tup [.int .i64 out.1, .int .i64 out.2.1, .bool out.2.2]) [] := by
  refine ACall.intro Try.func51 rfl Try.ntmps51 rfl (fun F hF => ?_)
  unfold m_impl_behindProof_F at hm
  refine T_seq ?_
  refine T_region ?_
  refine TL_pure rfl rfl rfl rfl (op_assign rfl) ?_
  refine TL_pure rfl rfl rfl rfl (op_assign rfl) ?_
  refine TL_pure rfl rfl rfl rfl (op_assign rfl) ?_
  refine TL_nil ?_
  refine T_seq ?_
  refine T_seq ?_
  refine T_region ?_
  refine TL_pure rfl rfl rfl rfl (op_move rfl) ?_
  refine TL_pure rfl rfl rfl rfl (op_move rfl) ?_
  refine TL_pure rfl rfl rfl rfl (op_lenT Try.underlying24 rfl (List.length_map _)) ?_
  refine TL_fact (fun _ _ _ hr => RelP.slLen (i := 13) rfl hr) (fun hlen14 => ?_)
  rw [List.length_map] at hlen14
  refine TL_pure rfl rfl rfl rfl (op_geq rfl rfl) ?_
  refine TL_nil ?_
  refine T_cond rfl (fun hq => ?_) (fun hq => ?_)
  · replace hm := condT hq hm
    refine T_seq ?_
    refine T_region ?_
    refine TL_pure rfl rfl rfl rfl (op_assign rfl) ?_
    refine TL_pure rfl rfl rfl rfl (op_assign rfl) ?_
    refine TL_pure rfl rfl rfl rfl (op_assign rfl) ?_
    refine TL_nil ?_
    refine T_keepH [4, 5, 6] [] rfl rfl rfl rfl (by rw [hF]; rfl) ?_
    refine T_ret ?_
    obtain rfl := someI hm
    refine ⟨[_, _, _], [], ⟨rfl, rfl, rfl, trivial⟩, ?_, rfl, rfl, rfl, rfl⟩
    rfl
  · replace hm := condF hq hm
    refine T_skip ?_
    refine T_seq ?_
    refine T_region ?_
    refine TL_pure rfl rfl rfl rfl (op_move rfl) ?_
    refine TL_pure rfl rfl rfl rfl (op_move rfl) ?_
    obtain ⟨x18, hx18, hm⟩ := bindS hm
    refine TL_pure rfl rfl rfl rfl (op_indexT el24 rfl rfl hx18 rfl) ?_
    refine TL_pure rfl rfl rfl rfl (op_load_agg ag62 sz62 rfl rfl rfl) ?_
    obtain ⟨r20, hr20, hm⟩ := bindS hm
    refine TL_callF (c_impl_subproofs x18 r20 hr20) Try.call105 rfl rfl rfl rfl rfl ?_
    refine TL_pure rfl rfl rfl rfl (op_assign rfl) ?_
    refine TL_nil ?_
    refine T_seq ?_
    refine T_seq ?_
    refine T_region ?_
    refine TL_pure rfl rfl rfl rfl (op_move rfl) ?_
    refine TL_pure rfl rfl rfl rfl (op_lss rfl rfl) ?_
    refine TL_nil ?_
    refine T_cond rfl (fun hq => ?_) (fun hq => ?_)
    · replace hm := condT hq hm
      refine T_seq ?_
      refine T_region ?_
      refine TL_pure rfl rfl rfl rfl (op_assign rfl) ?_
      refine TL_pure rfl rfl rfl rfl (op_assign rfl) ?_
      refine TL_pure rfl rfl rfl rfl (op_assign rfl) ?_
      refine TL_nil ?_
      refine T_keepH [4, 5, 6] [] rfl rfl rfl rfl (by rw [hF]; rfl) ?_
      refine T_ret ?_
      obtain rfl := someI hm
      refine ⟨[_, _, _], [], ⟨rfl, rfl, rfl, trivial⟩, ?_, rfl, rfl, rfl, rfl⟩
      rfl
    · replace hm := condF hq hm
      refine T_skip ?_
      refine T_seq ?_
      refine T_region ?_
      refine TL_pure rfl rfl rfl rfl (op_move rfl) ?_
      refine TL_pure rfl rfl rfl rfl (op_addW rfl rfl) ?_
      refine TL_pure rfl rfl rfl rfl (op_assign rfl) ?_
      refine TL_nil ?_
      refine T_seq ?_
      refine T_region ?_
      refine TL_pure rfl rfl rfl rfl (op_assign rfl) ?_
      refine TL_nil ?_
      refine T_seq ?_
      refine T_block ?_
      refine T_keepH [0, 1, 7, 8] [] rfl rfl rfl rfl (by rw [hF]; rfl) ?_
      refine T_loop ?_
      obtain ⟨u0, hl0, hm⟩ := bindS hm
      refine TR_iter2 (m_impl_behindProof_F_L0 rec_impl_behindProof p0) (fun (s0 : Int × Int × Int) => ⟨[(0, .sl 5 (List.map a_Node p0)), (1, .int .i64 s0.1), (7, .int .i64 s0.2.1), (8, .int .i64 s0.2.2)], []⟩) (fun u0 => match u0 with | .inl u0 => .exit 0 | .inr u0 => .ret) (fun u0 => match u0 with | .inl u0 => ⟨[(1, .int .i64 u0.1), (8, .int .i64 u0.2)], []⟩ | .inr u0 => ⟨[(4, .int .i64 u0.1), (5, .int .i64 u0.2.1), (6, .bool u0.2.2)], []⟩) (fun u0 => m_impl_behindProof_F_A0 u0 = some out) hl0 hm (fun u0 hm => ?_) (fun hx0 s0 c0 hm hc0 => ?_)
      · rcases u0 with u0 | u0
        · unfold m_impl_behindProof_F_A0 at hm
          refine T_seq ?_
          refine T_region ?_
          refine TL_pure rfl rfl rfl rfl (op_move rfl) ?_
          refine TL_pure rfl rfl rfl rfl (op_move rfl) ?_
          refine TL_pure rfl rfl rfl rfl (op_addW rfl rfl) ?_
          refine TL_pure rfl rfl rfl rfl (op_assign rfl) ?_
          refine TL_pure rfl rfl rfl rfl (op_assign rfl) ?_
          refine TL_pure rfl rfl rfl rfl (op_assign rfl) ?_
          refine TL_nil ?_
          refine T_keepH [4, 5, 6] [] rfl rfl rfl rfl (by rw [hF]; rfl) ?_
          refine T_ret ?_
          obtain rfl := someI hm
          refine ⟨[_, _, _], [], ⟨rfl, rfl, rfl, trivial⟩, ?_, rfl, rfl, rfl, rfl⟩
          rfl
        · unfold m_impl_behindProof_F_A0 at hm
          obtain rfl := someI hm
          refine ⟨[_, _, _], [], ⟨rfl, rfl, rfl, trivial⟩, ?_, rfl, rfl, rfl, rfl⟩
          rfl
      · unfold m_impl_behindProof_F_L0 at hm
        refine T_seq ?_
        refine T_seq ?_
        refine T_region ?_
        refine TL_pure rfl rfl rfl rfl (op_move rfl) ?_
        refine TL_pure rfl rfl rfl rfl (op_gtr rfl rfl) ?_
        refine TL_nil ?_
        refine T_cond rfl (fun hq => ?_) (fun hq => ?_)
        · replace hm := condT hq hm
          refine T_skip ?_
          refine T_seq ?_
          refine T_block ?_
          refine T_seq ?_
          refine T_region ?_
          refine TL_pure rfl rfl rfl rfl (op_move rfl) ?_
          refine TL_pure rfl rfl rfl rfl (op_move rfl) ?_
          obtain ⟨r32, hr32, hm⟩ := bindS hm
          refine TL_callF (hrec_impl_behindProof p0 s0.1 r32 hr32) Try.call51 rfl rfl rfl rfl rfl ?_
          refine TL_pure rfl rfl rfl rfl (op_move rfl) ?_
          refine TL_pure rfl rfl rfl rfl (op_extract rfl rfl) ?_
          refine TL_pure rfl rfl rfl rfl (op_extract rfl rfl) ?_
          refine TL_pure rfl rfl rfl rfl (op_extract rfl rfl) ?_
          refine TL_pure rfl rfl rfl rfl (op_assign rfl) ?_
          refine TL_pure rfl rfl rfl rfl (op_assign rfl) ?_
          refine TL_pure rfl rfl rfl rfl (op_assign rfl) ?_
          refine TL_nil ?_
          refine T_seq ?_
          refine T_seq ?_
          refine T_region ?_
          refine TL_pure rfl rfl rfl rfl (op_move rfl) ?_
          refine TL_pure rfl rfl rfl rfl (op_not rfl) ?_
          refine TL_nil ?_
          refine T_cond rfl (fun hq => ?_) (fun hq => ?_)
          · replace hm := condT hq hm
            refine T_seq ?_
            refine T_region ?_
            refine TL_pure rfl rfl rfl rfl (op_assign rfl) ?_
            refine TL_pure rfl rfl rfl rfl (op_assign rfl) ?_
            refine TL_pure rfl rfl rfl rfl (op_assign rfl) ?_
            refine TL_nil ?_
            refine T_keepH [4, 5, 6] [] rfl rfl rfl rfl (by rw [hF]; rfl) ?_
            refine T_ret ?_
            obtain rfl := someI hm
            have hn := CtlOK_out hc0
            exact hx0 (.inr ((0 : Int), (0 : Int), false)) hn
          · replace hm := condF hq hm
            refine T_skip ?_
            refine T_seq ?_
            refine T_region ?_
            refine TL_pure rfl rfl rfl rfl (op_move rfl) ?_
            refine TL_pure rfl rfl rfl rfl (op_move rfl) ?_
            refine TL_pure rfl rfl rfl rfl (op_max rfl rfl) ?_
            refine TL_pure rfl rfl rfl rfl (op_assign rfl) ?_
            refine TL_nil ?_
            refine T_region ?_
            refine TL_pure rfl rfl rfl rfl (op_move rfl) ?_
            refine TL_pure rfl rfl rfl rfl (op_assign rfl) ?_
            refine TL_nil ?_
            refine T_region ?_
            refine TL_pure rfl rfl rfl rfl (op_move rfl) ?_
            refine TL_pure rfl rfl rfl rfl (op_subW rfl rfl) ?_
            refine TL_pure rfl rfl rfl rfl (op_assign rfl) ?_
            refine TL_nil ?_
            refine TR_keepH [0, 1, 7, 8] [] rfl rfl rfl rfl (by rw [hF]; rfl) ?_
            obtain rfl := someI hm
            have hn := CtlOK_next hc0
            exact hn _ rfl
        · replace hm := condF hq hm
          refine T_keepH [1, 8] [] rfl rfl rfl rfl (by rw [hF]; rfl) ?_
          refine T_exit ?_
          obtain rfl := someI hm
          have hn := CtlOK_out hc0
          exact hx0 (.inl (s0.1, s0.2.2)) hn
theorem c_impl_behindProof : ∀ (n : Nat) (p0 : List Node) (p1 : Int) (out : Int × Int × Bool), m_impl_behindProof n p0 p1 = some out → ACall Try.prog 51 [.sl 5 (List.map a_Node p0), .int .i64 p1] [] (.tup [.int .i64 out.1, .int .i64 out.2.1, .bool out.2.2]) [] := by
  intro n
  induction n with
  | zero => intro p0 p1 out hm; cases hm
  | succ n ih => intro p0 p1 out hm; exact c_impl_behindProof_F (m_impl_behindProof n) ih p0 p1 out hm
theorem c_impl_IsProof (p0 : List Node) (out : Bool) (hm : m_impl_IsProof p0 = some out) : ACall Try.prog 32 [.sl 5 (List.map a_Node p0)] [] (.bool out) [] := by
  refine ACall.intro Try.func32 rfl Try.ntmps32 rfl (fun F hF => ?_)
  unfold m_impl_IsProof at hm
  refine T_seq ?_
  refine T_region ?_
  refine TL_pure rfl rfl rfl rfl (op_assign rfl) ?_
  refine TL_nil ?_
  refine T_seq ?_
  refine T_seq ?_
  refine T_region ?_
  refine TL_pure rfl rfl rfl rfl (op_move rfl) ?_
  refine TL_pure rfl rfl rfl rfl (op_lenT Try.underlying24 rfl (List.length_map _)) ?_
  refine TL_fact (fun _ _ _ hr => RelP.slLen (i := 6) rfl hr) (fun hlen7 => ?_)
  rw [List.length_map] at hlen7
  refine TL_pure rfl rfl rfl rfl (op_gtr rfl rfl) ?_
  refine TL_nil ?_
  refine T_cond rfl (fun hq => ?_) (fun hq => ?_)
  · replace hm := condT hq hm
    refine T_seq ?_
    refine T_region ?_
    refine TL_pure rfl rfl rfl rfl (op_assign rfl) ?_
    refine TL_nil ?_
    refine T_keepH [2] [] rfl rfl rfl rfl (by rw [hF]; rfl) ?_
    refine T_ret ?_
    obtain rfl := someI hm
    refine ⟨[_], [], ⟨rfl, trivial⟩, ?_, rfl, rfl, rfl, rfl⟩
    rfl
  · replace hm := condF hq hm
    refine T_skip ?_
    refine T_seq ?_
    refine T_region ?_
    refine TL_pure rfl rfl rfl rfl (op_move rfl) ?_
    obtain ⟨r11, hr11, hm⟩ := bindS hm
    refine TL_callF (c_impl_behindProof 1000 p0 (0 : Int) r11 hr11) Try.call51 rfl rfl rfl rfl rfl ?_
    refine TL_pure rfl rfl rfl rfl (op_move rfl) ?_
    refine TL_pure rfl rfl rfl rfl (op_extract rfl rfl) ?_
    refine TL_pure rfl rfl rfl rfl (op_extract rfl rfl) ?_
    refine TL_pure rfl rfl rfl rfl (op_extract rfl rfl) ?_
    refine TL_pure rfl rfl rfl rfl (op_assign rfl) ?_
    refine TL_pure rfl rfl rfl rfl (op_assign rfl) ?_
    refine TL_pure rfl rfl rfl rfl (op_assign rfl) ?_
    refine TL_nil ?_
    refine T_seq ?_
    refine T_region ?_
    refine TL_pure rfl rfl rfl rfl (op_move rfl) ?_
    refine TL_pure rfl rfl rfl rfl (op_move rfl) ?_
    refine TL_join 5 (fun _ : Unit => ⟨[(21, .bool (r11.2.2 && (decide (r11.1 = (p0.length : Int)))))], []⟩) (fun _ => True) (fun _ _ => ?_) (fun hjj => ?_)
    · refine TL_pure rfl rfl rfl rfl (op_assign rfl) ?_
      refine TL_nil ?_
      refine T_keepH [2] [] rfl rfl rfl rfl (by rw [hF]; rfl) ?_
      refine T_ret ?_
      obtain rfl := someI hm
      refine ⟨[_], [], ⟨rfl, trivial⟩, ?_, rfl, rfl, rfl, rfl⟩
      rfl
    · refine TL_split 16 rfl rfl rfl (fun hq => ?_) (fun hq => ?_)
      · refine TL_want rfl rfl ?_
        refine TL_pure rfl rfl rfl rfl (op_move rfl) ?_
        refine TL_want rfl rfl ?_
        refine TL_pure rfl rfl rfl rfl (op_move rfl) ?_
        refine TL_want rfl rfl ?_
        refine TL_pure rfl rfl rfl rfl (op_lenT Try.underlying24 rfl (List.length_map _)) ?_
        refine TL_want rfl rfl ?_
        refine TL_pure rfl rfl rfl rfl (op_eql rfl rfl) ?_
        refine TL_pure rfl rfl rfl rfl (op_pick_true rfl rfl) ?_
        refine TL_keepH [21] [] rfl rfl rfl rfl (by rw [hF]; rfl) ?_
        exact TL_cast _ (by first | (rw [hq, Bool.true_and]; done) | (rw [hq]; rfl)) (hjj () trivial)
      · refine TL_pass rfl rfl rfl rfl rfl rfl rfl ?_
        refine TL_pass rfl rfl rfl rfl rfl rfl rfl ?_
        refine TL_pass rfl rfl rfl rfl rfl rfl rfl ?_
        refine TL_pass rfl rfl rfl rfl rfl rfl rfl ?_
        refine TL_pure rfl rfl rfl rfl (op_pick_false rfl rfl) ?_
        refine TL_keepH [21] [] rfl rfl rfl rfl (by rw [hF]; rfl) ?_
        exact TL_cast _ (by first | (rw [hq, Bool.false_and]; done) | (rw [hq]; rfl)) (hjj () trivial)
theorem c_impl_closes (p0 : List Term) (p1 : List Int) (out : Bool) (hm : m_impl_closes p0 p1 = some out) : ACall Try.prog 65 [.sl 2 (List.map a_Term p0), .sl 1 (List.map a_i64 p1)] [] (.bool out) [] := by
  refine ACall.intro Try.func65 rfl Try.ntmps65 rfl (fun F hF => ?_)
  unfold m_impl_closes at hm
  refine T_seq ?_
  refine T_region ?_
  refine TL_pure rfl rfl rfl rfl (op_assign rfl) ?_
  refine TL_nil ?_
  refine T_seq ?_
  refine T_seq ?_
  refine T_region ?_
  refine TL_pure rfl rfl rfl rfl (op_move rfl) ?_
  refine TL_pure rfl rfl rfl rfl (op_lenT Try.underlying32 rfl (List.length_map _)) ?_
  refine TL_fact (fun _ _ _ hr => RelP.slLen (i := 6) rfl hr) (fun hlen7 => ?_)
  rw [List.length_map] at hlen7
  refine TL_pure rfl rfl rfl rfl (op_move rfl) ?_
  refine TL_pure rfl rfl rfl rfl (op_lenT Try.underlying39 rfl (List.length_map _)) ?_
  refine TL_fact (fun _ _ _ hr => RelP.slLen (i := 8) rfl hr) (fun hlen9 => ?_)
  rw [List.length_map] at hlen9
  refine TL_pure rfl rfl rfl rfl (op_neq rfl rfl) ?_
  refine TL_nil ?_
  refine T_cond rfl (fun hq => ?_) (fun hq => ?_)
  · replace hm := condT hq hm
    refine T_seq ?_
    refine T_region ?_
    refine TL_pure rfl rfl rfl rfl (op_assign rfl) ?_
    refine TL_nil ?_
    refine T_keepH [4] [] rfl rfl rfl rfl (by rw [hF]; rfl) ?_
    refine T_ret ?_
    obtain rfl := someI hm
    refine ⟨[_], [], ⟨rfl, trivial⟩, ?_, rfl, rfl, rfl, rfl⟩
    rfl
  · replace hm := condF hq hm
    refine T_skip ?_
    refine T_seq ?_
    refine T_region ?_
    refine TL_pure rfl rfl rfl rfl (op_move rfl) ?_
    refine TL_pure rfl rfl rfl rfl (op_move rfl) ?_
    obtain ⟨r13, hr13, hm⟩ := bindS hm
    refine TL_callO [(1000, 11)] (c_impl_combined p0 p1 r13 hr13) Try.call80 rfl rfl rfl rfl rfl rfl rfl rfl rfl rfl rfl rfl rfl ?_
    refine TL_alloc 12 z40 rfl rfl rfl rfl rfl rfl rfl ?_
    refine TL_store_box sz40 rfl rfl rfl rfl rfl rfl rfl rfl rfl ?_
    refine TL_nil ?_
    refine T_seq ?_
    refine T_region ?_
    refine TL_pure rfl rfl rfl rfl (op_fieldAddr fa40_1 rfl rfl) ?_
    refine TL_pure rfl rfl rfl rfl (op_load_one ag32 rfl rfl) ?_
    refine TL_pure rfl rfl rfl rfl (op_lenO Try.underlying32 rfl rfl (List.length_map _)) ?_
    refine TL_fact (fun _ _ _ hr => RelP.owLen (id := 11) rfl hr) (fun hlen16 => ?_)
    rw [List.length_map] at hlen16
    refine TL_pure rfl rfl rfl rfl (op_eql rfl rfl) ?_
    refine TL_pure rfl rfl rfl rfl (op_move rfl) ?_
    refine TL_join 4 (fun _ : Unit => ⟨[(22, .bool ((decide ((r13.Coeffs.length : Int) = (0 : Int))) && (decide (r13.Const < (0 : Int)))))], []⟩) (fun _ => True) (fun _ _ => ?_) (fun hjj => ?_)
    · refine TL_pure rfl rfl rfl rfl (op_assign rfl) ?_
      refine TL_nil ?_
      refine T_keepH [4] [] rfl rfl rfl rfl (by rw [hF]; rfl) ?_
      refine T_ret ?_
      obtain rfl := someI hm
      refine ⟨[_], [], ⟨rfl, trivial⟩, ?_, rfl, rfl, rfl, rfl⟩
      rfl
    · refine TL_split 18 rfl rfl rfl (fun hq => ?_) (fun hq => ?_)
      · refine TL_want rfl rfl ?_
        refine TL_pure rfl rfl rfl rfl (op_fieldAddr fa40_0 rfl rfl) ?_
        refine TL_want rfl rfl ?_
        refine TL_pure rfl rfl rfl rfl (op_load_one ag2 rfl rfl) ?_
        refine TL_want rfl rfl ?_
        refine TL_pure rfl rfl rfl rfl (op_lss rfl rfl) ?_
        refine TL_pure rfl rfl rfl rfl (op_pick_true rfl rfl) ?_
        refine TL_keepH [22] [] rfl rfl rfl rfl (by rw [hF]; rfl) ?_
        exact TL_cast _ (by first | (rw [hq, Bool.true_and]; done) | (rw [hq]; rfl)) (hjj () trivial)
      · refine TL_pass rfl rfl rfl rfl rfl rfl rfl ?_
        refine TL_pass rfl rfl rfl rfl rfl rfl rfl ?_
        refine TL_pass rfl rfl rfl rfl rfl rfl rfl ?_
        refine TL_pure rfl rfl rfl rfl (op_pick_false rfl rfl) ?_
        refine TL_keepH [22] [] rfl rfl rfl rfl (by rw [hF]; rfl) ?_
        exact TL_cast _ (by first | (rw [hq, Bool.false_and]; done) | (rw [hq]; rfl)) (hjj () trivial)
theorem c_slices_Clone_impl_Term_impl_Term (p0 : List Term) (out : List Term) (hm : m_slices_Clone_impl_Term_impl_Term p0 = some out) : ACall Try.prog 123 [.sl 2 (List.map a_Term p0)] [] (.ow 1000) [(1000, .arr ⟨false, false⟩ 2 40 (List.map a_Term out))] := by
  refine ACall.intro Try.func123 rfl Try.ntmps123 rfl (fun F hF => ?_)
  unfold m_slices_Clone_impl_Term_impl_Term at hm
  refine T_seq ?_
  refine T_region ?_
  refine TL_pure rfl rfl rfl rfl (op_assign rfl) ?_
  refine TL_nil ?_
  refine T_seq ?_
  refine T_seq ?_
  refine T_region ?_
  refine TL_pure rfl rfl rfl rfl (op_move rfl) ?_
  refine TL_eqNil Try.underlying39 rfl rfl rfl rfl rfl (fun hE => ?_) ?_
  · have hE := List.map_eq_nil_iff.1 hE
    rw [hE] at hm
    replace hm : some ([] : List Term) = some out := hm
    refine TL_nil ?_
    refine T_cond_true rfl ?_
    refine T_seq ?_
    refine T_region ?_
    refine TL_pure rfl rfl rfl rfl (op_assign rfl) ?_
    refine TL_nil ?_
    refine T_ownNil 2 11 ⟨false, false⟩ 40 rfl rfl (sz := 2) rfl rfl rfl ?_
    refine T_keepH [2] [11] rfl rfl rfl rfl (by rw [hF]; rfl) ?_
    refine T_ren [(11, 1000)] rfl rfl rfl (by rw [hF]; rfl) ?_
    refine T_ret ?_
    obtain rfl := someI hm
    refine ⟨[_], [1000], ⟨rfl, trivial⟩, ?_, rfl, rfl, rfl, rfl⟩
    rfl
  · refine TL_nil ?_
    refine T_cond_false rfl ?_
    refine T_skip ?_
    refine T_seq ?_
    refine T_region ?_
    refine TL_buildSlice 12 (es := List.map a_Term ([] : List Term)) el39 z40 rfl rfl rfl rfl rfl rfl rfl rfl rfl ?_
    refine TL_pure rfl rfl rfl rfl (op_move rfl) ?_
    obtain ⟨q7, hq7, hm⟩ := bindS hm
    refine TL_appendT (f := a_Term) (a := ([] : List Term)) (b := p0) el39 z40 rfl rfl rfl rfl rfl rfl rfl (capI_spec hq7) rfl rfl rfl rfl rfl ?_
    refine TL_pure rfl rfl rfl rfl (op_assign rfl) ?_
    refine TL_nil ?_
    refine T_keepH [2] [12] rfl rfl rfl rfl (by rw [hF]; rfl) ?_
    refine T_ren [(12, 1000)] rfl rfl rfl (by rw [hF]; rfl) ?_
    refine T_ret ?_
    obtain rfl := someI hm
    refine ⟨[_], [1000], ⟨rfl, trivial⟩, ?_, rfl, rfl, rfl, rfl⟩
    rfl
theorem c_impl_with (p0 : List Term) (p1 : Term) (out : List Term) (hm : m_impl_with p0 p1 = some out) : ACall Try.prog 83 [.sl 2 (List.map a_Term p0), .agg [.int .i64 p1.Const, .sl 1 (List.map a_i64 p1.Coeffs)]] [] (.sl 2 (List.map a_Term out)) [] := by
  refine ACall.intro Try.func83 rfl Try.ntmps83 rfl (fun F hF => ?_)
  unfold m_impl_with at hm
  refine T_seq ?_
  refine T_region ?_
  refine TL_box 11 rfl rfl rfl rfl rfl rfl rfl ?_
  refine TL_pure rfl rfl rfl rfl (op_assign rfl) ?_
  refine TL_nil ?_
  refine T_seq ?_
  refine T_drawZ [3, 4] mix (by kernel_rfl) rfl ?_
  obtain ⟨r6, hr6, hm⟩ := bindS hm
  obtain ⟨q9, hq9, hm⟩ := bindS hm
  refine TZ_pure 0 (by kernel_rfl) rfl rfl rfl rfl rfl (op_move rfl) ?_
  refine TZ_cut 4 [true, true, false, false, false, false] ⟨[(0, .sl 2 (List.map a_Term p0)), (1, .agg [.int .i64 p1.Const, .sl 1 (List.map a_i64 p1.Coeffs)]), (3, .ptr 11 0 0), (4, .snil), (5, .sl 2 (List.map a_Term p0)), (6, .ow 172)], [(11, .box [.int .i64 p1.Const, .sl 1 (List.map a_i64 p1.Coeffs)]), (172, .arr ⟨false, false⟩ 2 40 (List.map a_Term r6))]⟩ ?_ (fun hS11_0 => ?_)
  · refine TZ_one 2 (by kernel_rfl) rfl ?_
    refine TL_pure rfl rfl rfl rfl (op_load_agg ag40 sz40 rfl rfl rfl) ?_
    refine TL_nil ?_
    refine TZ_one 3 (by kernel_rfl) rfl ?_
    refine TL_buildSlice 332 (es := List.map a_Term [p1]) el39 z40 rfl rfl rfl rfl rfl rfl rfl rfl rfl ?_
    refine TL_nil ?_
    refine TZ_one 4 (by kernel_rfl) rfl ?_
    refine TL_appendT (f := a_Term) (a := r6) (b := [p1]) el39 z40 rfl rfl rfl rfl rfl rfl rfl (capI_spec hq9) rfl rfl rfl rfl rfl ?_
    refine TL_nil ?_
    refine TZ_pure 5 (by kernel_rfl) rfl rfl rfl rfl rfl (op_assign rfl) ?_
    refine TZ_done (by kernel_rfl) ?_
    refine T_keepH [4] [172] rfl rfl rfl rfl (by rw [hF]; rfl) ?_
    refine T_freeze 172 (by rw [hF]; rfl) rfl rfl rfl ?_
    refine T_ret ?_
    obtain rfl := someI hm
    refine ⟨[_], [], ⟨rfl, trivial⟩, ?_, rfl, rfl, rfl, rfl⟩
    rfl
  refine TZ_cut 3 [true, true, true, false, false, false] ⟨[(0, .sl 2 (List.map a_Term p0)), (1, .agg [.int .i64 p1.Const, .sl 1 (List.map a_i64 p1.Coeffs)]), (3, .ptr 11 0 0), (4, .snil), (5, .sl 2 (List.map a_Term p0)), (6, .ow 172), (7, .agg [.int .i64 p1.Const, .sl 1 (List.map a_i64 p1.Coeffs)])], [(11, .box [.int .i64 p1.Const, .sl 1 (List.map a_i64 p1.Coeffs)]), (172, .arr ⟨false, false⟩ 2 40 (List.map a_Term r6))]⟩ ?_ (fun hS11_1 => ?_)
  · refine TZ_one 3 (by kernel_rfl) rfl ?_
    refine TL_buildSlice 332 (es := List.map a_Term [p1]) el39 z40 rfl rfl rfl rfl rfl rfl rfl rfl rfl ?_
    refine TL_nil ?_
    refine TZ_one 4 (by kernel_rfl) rfl ?_
    refine TL_appendT (f := a_Term) (a := r6) (b := [p1]) el39 z40 rfl rfl rfl rfl rfl rfl rfl (capI_spec hq9) rfl rfl rfl rfl rfl ?_
    refine TL_nil ?_
    refine TZ_pure 5 (by kernel_rfl) rfl rfl rfl rfl rfl (op_assign rfl) ?_
    refine TZ_done (by kernel_rfl) ?_
    refine T_keepH [4] [172] rfl rfl rfl rfl (by rw [hF]; rfl) ?_
    refine T_freeze 172 (by rw [hF]; rfl) rfl rfl rfl ?_
    refine T_ret ?_
    obtain rfl := someI hm
    refine ⟨[_], [], ⟨rfl, trivial⟩, ?_, rfl, rfl, rfl, rfl⟩
    rfl
  refine TZ_cut 3 [true, false, true, true, false, false] ⟨[(0, .sl 2 (List.map a_Term p0)), (1, .agg [.int .i64 p1.Const, .sl 1 (List.map a_i64 p1.Coeffs)]), (3, .ptr 11 0 0), (4, .snil), (5, .sl 2 (List.map a_Term p0)), (7, .agg [.int .i64 p1.Const, .sl 1 (List.map a_i64 p1.Coeffs)]), (8, .ow 332)], [(11, .box [.int .i64 p1.Const, .sl 1 (List.map a_i64 p1.Coeffs)]), (332, .arr ⟨false, false⟩ 2 40 (List.map a_Term [p1]))]⟩ ?_ (fun hS11_2 => ?_)
  · refine TZ_one 1 (by kernel_rfl) rfl ?_
    refine TLE_call [] [(1000, 172)] [] (c_slices_Clone_impl_Term_impl_Term p0 r6 hr6) (fun _ => rfl) Try.call123 rfl rfl rfl rfl rfl trivial rfl rfl rfl rfl rfl rfl rfl rfl rfl rfl rfl ?_
    refine TL_nil ?_
    refine TZ_one 4 (by kernel_rfl) rfl ?_
    refine TL_appendT (f := a_Term) (a := r6) (b := [p1]) el39 z40 rfl rfl rfl rfl rfl rfl rfl (capI_spec hq9) rfl rfl rfl rfl rfl ?_
    refine TL_nil ?_
    refine TZ_pure 5 (by kernel_rfl) rfl rfl rfl rfl rfl (op_assign rfl) ?_
    refine TZ_done (by kernel_rfl) ?_
    refine T_keepH [4] [172] rfl rfl rfl rfl (by rw [hF]; rfl) ?_
    refine T_freeze 172 (by rw [hF]; rfl) rfl rfl rfl ?_
    refine T_ret ?_
    obtain rfl := someI hm
    refine ⟨[_], [], ⟨rfl, trivial⟩, ?_, rfl, rfl, rfl, rfl⟩
    rfl
  refine TZ_cut 4 [true, false, true, false, false, false] ⟨[(0, .sl 2 (List.map a_Term p0)), (1, .agg [.int .i64 p1.Const, .sl 1 (List.map a_i64 p1.Coeffs)]), (3, .ptr 11 0 0), (4, .snil), (5, .sl 2 (List.map a_Term p0)), (7, .agg [.int .i64 p1.Const, .sl 1 (List.map a_i64 p1.Coeffs)])], [(11, .box [.int .i64 p1.Const, .sl 1 (List.map a_i64 p1.Coeffs)])]⟩ ?_ (fun hS11_3 => ?_)
  · refine TZ_each [1, 3] (by kernel_rfl) rfl ?_
    refine ⟨?_, ?_⟩
    · refine ⟨_, rfl, ?_⟩
      refine TLE_call [] [(1000, 172)] [] (c_slices_Clone_impl_Term_impl_Term p0 r6 hr6) (fun _ => rfl) Try.call123 rfl rfl rfl rfl rfl trivial rfl rfl rfl rfl rfl rfl rfl rfl rfl rfl rfl ?_
      refine TL_nil ?_
      refine TZ_keepH [0, 1, 3, 4, 5, 6, 7] [11, 172] rfl rfl rfl rfl (by rw [hF]; rfl) ?_
      exact hS11_1
    · refine ⟨_, rfl, ?_⟩
      refine TL_buildSlice 332 (es := List.map a_Term [p1]) el39 z40 rfl rfl rfl rfl rfl rfl rfl rfl rfl ?_
      refine TL_nil ?_
      refine TZ_keepH [0, 1, 3, 4, 5, 7, 8] [11, 332] rfl rfl rfl rfl (by rw [hF]; rfl) ?_
      exact hS11_2
  refine TZ_each [1, 2] (by kernel_rfl) rfl ?_
  refine ⟨?_, ?_⟩
  · refine ⟨_, rfl, ?_⟩
    refine TLE_call [] [(1000, 172)] [] (c_slices_Clone_impl_Term_impl_Term p0 r6 hr6) (fun _ => rfl) Try.call123 rfl rfl rfl rfl rfl trivial rfl rfl rfl rfl rfl rfl rfl rfl rfl rfl rfl ?_
    refine TL_nil ?_
    refine TZ_keepH [0, 1, 3, 4, 5, 6] [11, 172] rfl rfl rfl rfl (by rw [hF]; rfl) ?_
    exact hS11_0
  · refine ⟨_, rfl, ?_⟩
    refine TL_pure rfl rfl rfl rfl (op_load_agg ag40 sz40 rfl rfl rfl) ?_
    refine TL_nil ?_
    refine TZ_keepH [0, 1, 3, 4, 5, 7] [11] rfl rfl rfl rfl (by rw [hF]; rfl) ?_
    exact hS11_3
theorem c_impl_size (p0 : Int) (out : Int) (hm : m_impl_size p0 = some out) : ACall Try.prog 104 [.int .i64 p0] [] (.int .i64 out) [] := by
  refine ACall.intro Try.func104 rfl Try.ntmps104 rfl (fun F hF => ?_)
  unfold m_impl_size at hm
  refine T_seq ?_
  refine T_region ?_
  refine TL_pure rfl rfl rfl rfl (op_assign rfl) ?_
  refine TL_nil ?_
  refine T_seq ?_
  refine T_region ?_
  refine TL_pure rfl rfl rfl rfl (op_move rfl) ?_
  refine TL_pure rfl rfl rfl rfl (op_assign rfl) ?_
  refine TL_nil ?_
  refine T_keepH [2] [] rfl rfl rfl rfl (by rw [hF]; rfl) ?_
  refine T_ret ?_
  obtain rfl := someI hm
  refine ⟨[_], [], ⟨rfl, trivial⟩, ?_, rfl, rfl, rfl, rfl⟩
  rfl
theorem c_impl_isIndex (p0 : Int) (p1 : Int) (out : Bool) (hm : m_impl_isIndex p0 p1 = some out) : ACall Try.prog 50 [.int .i64 p0, .int .i64 p1] [] (.bool out) [] := by
  refine ACall.intro Try.func50 rfl Try.ntmps50 rfl (fun F hF => ?_)
  unfold m_impl_isIndex at hm
  refine T_seq ?_
  refine T_region ?_
  refine TL_pure rfl rfl rfl rfl (op_assign rfl) ?_
  refine TL_nil ?_
  refine T_seq ?_
  refine T_region ?_
  refine TL_pure rfl rfl rfl rfl (op_move rfl) ?_
  refine TL_pure rfl rfl rfl rfl (op_move rfl) ?_
  obtain ⟨r7, hr7, hm⟩ := bindS hm
  refine TL_callF (c_impl_size p1 r7 hr7) Try.call104 rfl rfl rfl rfl rfl ?_
  refine TL_pure rfl rfl rfl rfl (op_subW rfl rfl) ?_
  obtain ⟨r9, hr9, hm⟩ := bindS hm
  refine TL_callF (c_impl_within p0 (0 : Int) (w64 (r7 - (1 : Int))) r9 hr9) Try.call103 rfl rfl rfl rfl rfl ?_
  refine TL_pure rfl rfl rfl rfl (op_assign rfl) ?_
  refine TL_nil ?_
  refine T_keepH [4] [] rfl rfl rfl rfl (by rw [hF]; rfl) ?_
  refine T_ret ?_
  obtain rfl := someI hm
  refine ⟨[_], [], ⟨rfl, trivial⟩, ?_, rfl, rfl, rfl, rfl⟩
  rfl
theorem c_impl_absolute (p0 : Int) (out : Int) (hm : m_impl_absolute p0 = some out) : ACall Try.prog 139 [.int .i64 p0] [] (.int .i64 out) [] := by
  refine ACall.intro Try.func139 rfl Try.ntmps139 rfl (fun F hF => ?_)
  unfold m_impl_absolute at hm
  refine T_seq ?_
  refine T_region ?_
  refine TL_pure rfl rfl rfl rfl (op_assign rfl) ?_
  refine TL_nil ?_
  refine T_seq ?_
  refine T_region ?_
  refine TL_pure rfl rfl rfl rfl (op_move rfl) ?_
  refine TL_pure rfl rfl rfl rfl (op_move rfl) ?_
  refine TL_pure rfl rfl rfl rfl (op_negW rfl) ?_
  refine TL_pure rfl rfl rfl rfl (op_max rfl rfl) ?_
  refine TL_pure rfl rfl rfl rfl (op_assign rfl) ?_
  refine TL_nil ?_
  refine T_keepH [2] [] rfl rfl rfl rfl (by rw [hF]; rfl) ?_
  refine T_ret ?_
  obtain rfl := someI hm
  refine ⟨[_], [], ⟨rfl, trivial⟩, ?_, rfl, rfl, rfl, rfl⟩
  rfl
theorem c_impl_gcd (p0 : List Int) (out : Int) (hm : m_impl_gcd p0 = some out) : ACall Try.prog 136 [.sl 1 (List.map a_i64 p0)] [] (.int .i64 out) [] := by
  refine ACall.intro Try.func136 rfl Try.ntmps136 rfl (fun F hF => ?_)
  unfold m_impl_gcd at hm
  refine T_seq ?_
  refine T_region ?_
  refine TL_pure rfl rfl rfl rfl (op_assign rfl) ?_
  refine TL_nil ?_
  refine T_seq ?_
  refine T_region ?_
  refine TL_pure rfl rfl rfl rfl (op_assign rfl) ?_
  refine TL_nil ?_
  refine T_seq ?_
  refine T_seq ?_
  refine T_region ?_
  refine TL_pure rfl rfl rfl rfl (op_move rfl) ?_
  refine TL_pure rfl rfl rfl rfl (op_lenT Try.underlying32 rfl (List.length_map _)) ?_
  refine TL_fact (fun _ _ _ hr => RelP.slLen (i := 8) rfl hr) (fun hlen9 => ?_)
  rw [List.length_map] at hlen9
  refine TL_pure rfl rfl rfl rfl (op_move rfl) ?_
  refine TL_nil ?_
  refine T_block ?_
  refine T_keepH [3, 8, 9, 10] [] rfl rfl rfl rfl (by rw [hF]; rfl) ?_
  refine T_loop ?_
  obtain ⟨u0, hl0, hm⟩ := bindS hm
  refine TR_forL2 p0 (m_impl_gcd_L0) (fun (s0 : Int) => s0) (fun n0 (s0 : Int) => ⟨[(3, .int .i64 s0), (8, .sl 1 (List.map a_i64 p0)), (9, .int .i64 (p0.length : Int)), (10, .int .i64 (n0 : Int))], []⟩) (fun u0 => .exit 0) (fun u0 => ⟨[(3, .int .i64 u0)], []⟩) (fun u0 => m_impl_gcd_A0 u0 = some out) hl0 hm (fun u0 hm => ?_) (fun hx0 s0 hm => ?_) (fun hx0 n0 x0 s0 c0 hxn0 hlt0 hm hc0 => ?_)
  · unfold m_impl_gcd_A0 at hm
    refine T_seq ?_
    refine T_region ?_
    refine TL_pure rfl rfl rfl rfl (op_move rfl) ?_
    refine TL_pure rfl rfl rfl rfl (op_assign rfl) ?_
    refine TL_nil ?_
    refine T_keepH [2] [] rfl rfl rfl rfl (by rw [hF]; rfl) ?_
    refine T_ret ?_
    obtain rfl := someI hm
    refine ⟨[_], [], ⟨rfl, trivial⟩, ?_, rfl, rfl, rfl, rfl⟩
    rfl
  · refine T_seq ?_
    refine T_region ?_
    refine TL_pure rfl rfl rfl rfl (op_lss rfl rfl) ?_
    refine TL_nil ?_
    refine T_seq ?_
    refine T_if_false rfl (decide_eq_false (by simp)) ?_
    refine T_keepH [3] [] rfl rfl rfl rfl (by rw [hF]; rfl) ?_
    refine T_exit ?_
    exact hx0 s0 hm
  · unfold m_impl_gcd_L0 at hm
    refine T_seq ?_
    refine T_region ?_
    refine TL_pure rfl rfl rfl rfl (op_lss rfl rfl) ?_
    refine TL_nil ?_
    refine T_seq ?_
    refine T_if_true rfl (decide_eq_true (Int.ofNat_lt.2 hlt0)) ?_
    refine T_skip ?_
    refine T_seq ?_
    refine T_block ?_
    refine T_seq ?_
    refine T_region ?_
    refine TL_pure rfl rfl rfl rfl (op_index_sl el32 rfl rfl rfl (get_map hxn0) rfl) ?_
    refine TL_pure rfl rfl rfl rfl (op_load_one ag2 rfl rfl) ?_
    refine TL_pure rfl rfl rfl rfl (op_assign rfl) ?_
    refine TL_nil ?_
    refine T_seq ?_
    refine T_region ?_
    refine TL_pure rfl rfl rfl rfl (op_move rfl) ?_
    refine TL_pure rfl rfl rfl rfl (op_move rfl) ?_
    obtain ⟨r16, hr16, hm⟩ := bindS hm
    refine TL_callF (c_impl_absolute x0 r16 hr16) Try.call139 rfl rfl rfl rfl rfl ?_
    refine TL_pure rfl rfl rfl rfl (op_assign rfl) ?_
    refine TL_pure rfl rfl rfl rfl (op_assign rfl) ?_
    refine TL_nil ?_
    refine T_seq ?_
    refine T_block ?_
    refine T_keepH [6, 7, 8, 9, 10] [] rfl rfl rfl rfl (by rw [hF]; rfl) ?_
    refine T_loop ?_
    obtain ⟨u1, hl1, hm⟩ := bindS hm
    refine TR_iter2 (m_impl_gcd_L1) (fun (s1 : Int × Int) => ⟨[(6, .int .i64 s1.1), (7, .int .i64 s1.2), (8, .sl 1 (List.map a_i64 p0)), (9, .int .i64 (p0.length : Int)), (10, .int .i64 (n0 : Int))], []⟩) (fun u1 => .exit 2) (fun u1 => ⟨[(6, .int .i64 u1), (8, .sl 1 (List.map a_i64 p0)), (9, .int .i64 (p0.length : Int)), (10, .int .i64 (n0 : Int))], []⟩) (fun u1 => m_impl_gcd_A1 u1 = some c0) hl1 hm (fun u1 hm => ?_) (fun hx1 s1 c1 hm hc1 => ?_)
    · unfold m_impl_gcd_A1 at hm
      refine T_region ?_
      refine TL_pure rfl rfl rfl rfl (op_move rfl) ?_
      refine TL_pure rfl rfl rfl rfl (op_assign rfl) ?_
      refine TL_nil ?_
      refine T_region ?_
      refine TL_pure rfl rfl rfl rfl (op_addN rfl rfl (Nat.lt_of_lt_of_le hlt0 hlen9)) ?_
      refine TL_pure rfl rfl rfl rfl (op_move rfl) ?_
      refine TL_nil ?_
      refine TR_keepH [3, 8, 9, 10] [] rfl rfl rfl rfl (by rw [hF]; rfl) ?_
      obtain rfl := someI hm
      have hn := CtlOK_next hc0
      exact hn _ rfl
    · unfold m_impl_gcd_L1 at hm
      refine T_seq ?_
      refine T_seq ?_
      refine T_region ?_
      refine TL_pure rfl rfl rfl rfl (op_move rfl) ?_
      refine TL_pure rfl rfl rfl rfl (op_neq rfl rfl) ?_
      refine TL_nil ?_
      refine T_cond rfl (fun hq => ?_) (fun hq => ?_)
      · replace hm := condT hq hm
        refine T_skip ?_
        refine T_block ?_
        refine T_drawZ [] mix (by kernel_rfl) rfl ?_
        obtain ⟨q22, hq22, hm⟩ := bindS hm
        refine TZ_pure 0 (by kernel_rfl) rfl rfl rfl rfl rfl (op_move rfl) ?_
        refine TZ_pure 1 (by kernel_rfl) rfl rfl rfl rfl rfl (op_move rfl) ?_
        refine TZ_pure 2 (by kernel_rfl) rfl rfl rfl rfl rfl (op_move rfl) ?_
        refine TZ_pure 3 (by kernel_rfl) rfl rfl rfl rfl rfl (op_remT rfl rfl hq22) ?_
        refine TZ_pure 4 (by kernel_rfl) rfl rfl rfl rfl rfl (op_assign rfl) ?_
        refine TZ_pure 5 (by kernel_rfl) rfl rfl rfl rfl rfl (op_assign rfl) ?_
        refine TZ_done (by kernel_rfl) ?_
        refine TR_keepH [6, 7, 8, 9, 10] [] rfl rfl rfl rfl (by rw [hF]; rfl) ?_
        obtain rfl := someI hm
        have hn := CtlOK_next hc1
        exact hn _ rfl
      · replace hm := condF hq hm
        refine T_keepH [6, 8, 9, 10] [] rfl rfl rfl rfl (by rw [hF]; rfl) ?_
        refine T_exit ?_
        obtain rfl := someI hm
        have hn := CtlOK_out hc1
        exact hx1 s1.1 hn
theorem c_impl_divFloor (p0 : Int) (p1 : Int) (out : Int) (hm : m_impl_divFloor p0 p1 = some out) : ACall Try.prog 137 [.int .i64 p0, .int .i64 p1] [] (.int .i64 out) [] := by
  refine ACall.intro Try.func137 rfl Try.ntmps137 rfl (fun F hF => ?_)
  unfold m_impl_divFloor at hm
  refine T_seq ?_
  refine T_region ?_
  refine TL_pure rfl rfl rfl rfl (op_assign rfl) ?_
  refine TL_nil ?_
  refine T_seq ?_
  refine T_region ?_
  refine TL_pure rfl rfl rfl rfl (op_move rfl) ?_
  refine TL_pure rfl rfl rfl rfl (op_move rfl) ?_
  obtain ⟨q8, hq8, hm⟩ := bindS hm
  refine TL_pure rfl rfl rfl rfl (op_quoT rfl rfl hq8) ?_
  refine TL_pure rfl rfl rfl rfl (op_assign rfl) ?_
  refine TL_nil ?_
  refine T_seq ?_
  refine T_seq ?_
  refine T_region ?_
  refine TL_pure rfl rfl rfl rfl (op_move rfl) ?_
  refine TL_pure rfl rfl rfl rfl (op_move rfl) ?_
  obtain ⟨q11, hq11, hm⟩ := bindS hm
  refine TL_pure rfl rfl rfl rfl (op_remT rfl rfl hq11) ?_
  refine TL_pure rfl rfl rfl rfl (op_lss rfl rfl) ?_
  refine TL_nil ?_
  refine T_cond rfl (fun hq => ?_) (fun hq => ?_)
  · replace hm := condT hq hm
    refine T_region ?_
    refine TL_pure rfl rfl rfl rfl (op_move rfl) ?_
    refine TL_pure rfl rfl rfl rfl (op_subW rfl rfl) ?_
    refine TL_pure rfl rfl rfl rfl (op_assign rfl) ?_
    refine TL_nil ?_
    refine T_seq ?_
    refine T_region ?_
    refine TL_pure rfl rfl rfl rfl (op_move rfl) ?_
    refine TL_pure rfl rfl rfl rfl (op_assign rfl) ?_
    refine TL_nil ?_
    refine T_keepH [4] [] rfl rfl rfl rfl (by rw [hF]; rfl) ?_
    refine T_ret ?_
    obtain rfl := someI hm
    refine ⟨[_], [], ⟨rfl, trivial⟩, ?_, rfl, rfl, rfl, rfl⟩
    rfl
  · replace hm := condF hq hm
    refine T_skip ?_
    refine T_seq ?_
    refine T_region ?_
    refine TL_pure rfl rfl rfl rfl (op_move rfl) ?_
    refine TL_pure rfl rfl rfl rfl (op_assign rfl) ?_
    refine TL_nil ?_
    refine T_keepH [4] [] rfl rfl rfl rfl (by rw [hF]; rfl) ?_
    refine T_ret ?_
    obtain rfl := someI hm
    refine ⟨[_], [], ⟨rfl, trivial⟩, ?_, rfl, rfl, rfl, rfl⟩
    rfl
theorem c_impl_Term_tightened (p0 : Term) (out : Term × Bool) (hm : m_impl_Term_tightened p0 = some out) : ACall Try.prog 134 [.agg [.int .i64 p0.Const, .sl 1 (List.map a_i64 p0.Coeffs)]] [] (.tup [.agg [.int .i64 out.1.Const, .ow 1000], .bool out.2]) [(1000, .arr ⟨false, true⟩ 1 2 (List.map a_i64 out.1.Coeffs))] := by
  refine ACall.intro Try.func134 rfl Try.ntmps134 rfl (fun F hF => ?_)
  unfold m_impl_Term_tightened at hm
  refine T_seq ?_
  refine T_region ?_
  refine TL_box 11 rfl rfl rfl rfl rfl rfl rfl ?_
  refine TL_alloc 12 z40 rfl rfl rfl rfl rfl rfl rfl ?_
  refine TL_pure rfl rfl rfl rfl (op_assign rfl) ?_
  refine TL_nil ?_
  refine T_seq ?_
  refine T_region ?_
  refine TL_pure rfl rfl rfl rfl (op_fieldAddr fa40_1 rfl rfl) ?_
  refine TL_pure rfl rfl rfl rfl (op_load_one ag32 rfl rfl) ?_
  obtain ⟨r9, hr9, hm⟩ := bindS hm
  refine TL_callF (c_impl_gcd p0.Coeffs r9 hr9) Try.call136 rfl rfl rfl rfl rfl ?_
  refine TL_pure rfl rfl rfl rfl (op_assign rfl) ?_
  refine TL_nil ?_
  refine T_seq ?_
  refine T_seq ?_
  refine T_region ?_
  refine TL_pure rfl rfl rfl rfl (op_move rfl) ?_
  refine TL_pure rfl rfl rfl rfl (op_leq rfl rfl) ?_
  refine TL_nil ?_
  refine T_cond rfl (fun hq => ?_) (fun hq => ?_)
  · replace hm := condT hq hm
    refine T_seq ?_
    refine T_region ?_
    refine TL_pure rfl rfl rfl rfl (op_buildP pl40 z40 rfl rfl rfl rfl rfl) ?_
    refine TL_store_box sz40 rfl rfl rfl rfl rfl rfl rfl rfl rfl ?_
    refine TL_pure rfl rfl rfl rfl (op_assign rfl) ?_
    refine TL_nil ?_
    refine T_ownNilBox 12 1 13 ⟨false, true⟩ 2 rfl rfl rfl (sz := 1) rfl rfl rfl rfl ?_
    refine T_keepH [2, 3] [12, 13] rfl rfl rfl rfl (by rw [hF]; rfl) ?_
    refine T_ren [(12, 12), (13, 1000)] rfl rfl rfl (by rw [hF]; rfl) ?_
    refine T_ret ?_
    obtain rfl := someI hm
    refine ⟨[_, _], [1000], ⟨⟨_, _, rfl, rfl, .inr ⟨ag40, _, _, sz40, rfl, rfl⟩⟩, rfl, trivial⟩, ?_, rfl, rfl, rfl, rfl⟩
    rfl
  · replace hm := condF hq hm
    refine T_skip ?_
    refine T_seq ?_
    refine T_region ?_
    refine TL_pure rfl rfl rfl rfl (op_load_agg ag40 sz40 rfl rfl rfl) ?_
    obtain ⟨r14, hr14, hm⟩ := bindS hm
    refine TL_callO [(1000, 14)] (c_impl_Term_own p0 r14 hr14) Try.call89 rfl rfl rfl rfl rfl rfl rfl rfl rfl rfl rfl rfl rfl ?_
    refine TL_alloc 15 z40 rfl rfl rfl rfl rfl rfl rfl ?_
    refine TL_store_box sz40 rfl rfl rfl rfl rfl rfl rfl rfl rfl ?_
    refine TL_nil ?_
    refine T_seq ?_
    refine T_region ?_
    refine TL_pure rfl rfl rfl rfl (op_fieldAddr fa40_0 rfl rfl) ?_
    refine TL_pure rfl rfl rfl rfl (op_load_one ag2 rfl rfl) ?_
    refine TL_pure rfl rfl rfl rfl (op_move rfl) ?_
    obtain ⟨r18, hr18, hm⟩ := bindS hm
    refine TL_callF (c_impl_divFloor p0.Const r9 r18 hr18) Try.call137 rfl rfl rfl rfl rfl ?_
    refine TL_pure rfl rfl rfl rfl (op_fieldAddr fa40_0 rfl rfl) ?_
    refine TL_store_box sz2 rfl rfl rfl rfl rfl rfl rfl rfl rfl ?_
    refine TL_nil ?_
    refine T_seq ?_
    refine T_seq ?_
    refine T_region ?_
    refine TL_pure rfl rfl rfl rfl (op_fieldAddr fa40_1 rfl rfl) ?_
    refine TL_pure rfl rfl rfl rfl (op_load_one ag32 rfl rfl) ?_
    refine TL_pure rfl rfl rfl rfl (op_lenO Try.underlying32 rfl rfl (List.length_map _)) ?_
    refine TL_fact (fun _ _ _ hr => RelP.owLen (id := 14) rfl hr) (fun hlen22 => ?_)
    rw [List.length_map] at hlen22
    refine TL_pure rfl rfl rfl rfl (op_move rfl) ?_
    refine TL_nil ?_
    refine T_block ?_
    refine T_keepH [2, 4, 5, 22, 23] [12, 14, 15] rfl rfl rfl rfl (by rw [hF]; rfl) ?_
    refine T_loop ?_
    obtain ⟨u0, hl0, hm⟩ := bindS hm
    refine TR_iter2 (m_impl_Term_tightened_L0 r9 r14) (fun (s0 : (List Int) × Int) => ⟨[(2, .ptr 12 0 0), (4, .int .i64 r9), (5, .ptr 15 0 0), (22, .int .i64 (r14.Coeffs.length : Int)), (23, .int .i64 s0.2)], [(12, .box [.int .i64 (0 : Int), .snil]), (14, .arr ⟨false, true⟩ 1 2 (List.map a_i64 s0.1)), (15, .box [.int .i64 r18, .ow 14])]⟩) (fun u0 => .exit 0) (fun u0 => ⟨[(2, .ptr 12 0 0), (5, .ptr 15 0 0)], [(12, .box [.int .i64 (0 : Int), .snil]), (14, .arr ⟨false, true⟩ 1 2 (List.map a_i64 u0)), (15, .box [.int .i64 r18, .ow 14])]⟩) (fun u0 => m_impl_Term_tightened_A0 r18 u0 = some out) hl0 hm (fun u0 hm => ?_) (fun hx0 s0 c0 hm hc0 => ?_)
    · unfold m_impl_Term_tightened_A0 at hm
      refine T_seq ?_
      refine T_region ?_
      refine TL_pure rfl rfl rfl rfl (op_load_agg ag40 sz40 rfl rfl rfl) ?_
      refine TL_store_box sz40 rfl rfl rfl rfl rfl rfl rfl rfl rfl ?_
      refine TL_pure rfl rfl rfl rfl (op_assign rfl) ?_
      refine TL_nil ?_
      refine T_keepH [2, 3] [12, 14] rfl rfl rfl rfl (by rw [hF]; rfl) ?_
      refine T_ren [(12, 12), (14, 1000)] rfl rfl rfl (by rw [hF]; rfl) ?_
      refine T_ret ?_
      obtain rfl := someI hm
      refine ⟨[_, _], [1000], ⟨⟨_, _, rfl, rfl, .inr ⟨ag40, _, _, sz40, rfl, rfl⟩⟩, rfl, trivial⟩, ?_, rfl, rfl, rfl, rfl⟩
      rfl
    · unfold m_impl_Term_tightened_L0 at hm
      refine T_seq ?_
      refine T_region ?_
      refine TL_pure rfl rfl rfl rfl (op_lss rfl rfl) ?_
      refine TL_nil ?_
      refine T_seq ?_
      refine T_cond rfl (fun hq => ?_) (fun hq => ?_)
      · replace hm := condT hq hm
        refine T_skip ?_
        refine T_seq ?_
        refine T_block ?_
        refine T_seq ?_
        refine T_region ?_
        refine TL_pure rfl rfl rfl rfl (op_move rfl) ?_
        refine TL_pure rfl rfl rfl rfl (op_assign rfl) ?_
        refine TL_nil ?_
        refine T_region ?_
        refine TL_pure rfl rfl rfl rfl (op_fieldAddr fa40_1 rfl rfl) ?_
        refine TL_pure rfl rfl rfl rfl (op_load_one ag32 rfl rfl) ?_
        refine TL_pure rfl rfl rfl rfl (op_move rfl) ?_
        obtain ⟨x29, hx29, hm⟩ := bindS hm
        refine TL_pure rfl rfl rfl rfl (op_indexO el32 rfl rfl rfl hx29) ?_
        refine TL_pure rfl rfl rfl rfl (op_loadD1 ag2 rfl rfl ((getI_spec hx29).2) rfl rfl rfl rfl) ?_
        refine TL_pure rfl rfl rfl rfl (op_move rfl) ?_
        obtain ⟨q32, hq32, hm⟩ := bindS hm
        refine TL_pure rfl rfl rfl rfl (op_quoT rfl rfl hq32) ?_
        refine TL_pure rfl rfl rfl rfl (op_indexO el32 rfl rfl rfl hx29) ?_
        refine TL_storeFT sz2 rfl rfl ((getI_spec hx29).2) (v' := q32) rfl rfl rfl rfl rfl rfl rfl rfl rfl ?_
        refine TL_nil ?_
        refine T_region ?_
        refine TL_pure rfl rfl rfl rfl (op_addW rfl rfl) ?_
        refine TL_pure rfl rfl rfl rfl (op_move rfl) ?_
        refine TL_nil ?_
        refine TR_keepH [2, 4, 5, 22, 23] [12, 14, 15] rfl rfl rfl rfl (by rw [hF]; rfl) ?_
        obtain rfl := someI hm
        have hn := CtlOK_next hc0
        exact hn _ rfl
      · replace hm := condF hq hm
        refine T_keepH [2, 5] [12, 14, 15] rfl rfl rfl rfl (by rw [hF]; rfl) ?_
        refine T_exit ?_
        obtain rfl := someI hm
        have hn := CtlOK_out hc0
        exact hx0 s0.1 hn
theorem c_impl_checking_examine_F (rec_impl_checking_examine : checking → Int → (List Term) → Option (Int × checking)) (hrec_impl_checking_examine : ∀ (p0 : checking) (p1 : Int) (p2 : List Term) (out : Int × checking), rec_impl_checking_examine p0 p1 p2 = some out → ACall Try.prog 115 [.ptr 0 0 0, .int .i64 p1, .sl 2 (List.map a_Term p2)] [(0, .box [.sl 5 (List.map a_Node p0.proof), .mp 1, .int .i64 p0.flaw]), (1, .box (.tr (.tup (List.map aMa_i64aLa_Term p0.contexts)) :: jk))] (.int .i64 out.1) [(0, .box [.sl 5 (List.map a_Node out.2.proof), .mp 1, .int .i64 out.2.flaw]), (1, .box (.tr (.tup (List.map aMa_i64aLa_Term out.2.contexts)) :: jk))]) (p0 : checking) (p1 : Int) (p2 : List Term) (out : Int × checking) (hm : m_impl_checking_examine_F rec_impl_checking_examine p0 p1 p2 = some out) : ACall Try.prog 115 [.ptr 0 0 0, .int .i64 p1, .sl 2 (List.map a_Term p2)] [(0, .box [.sl 5 (List.map a_Node p0.proof), .mp 1, .int .i64 p0.flaw]), (1, .box (.tr (.tup (List.map aMa_i64aLa_Term p0.contexts)) :: jk))] (.int .i64 out.1) [(0, .box [.sl 5 (List.map a_Node out.2.proof), .mp 1, .int .i64 out.2.flaw]), (1, .box (.tr (.tup (List.map aMa_i64aLa_Term out.2.contexts)) :: jk))] := by
  refine ACall.intro Try.func115 rfl Try.ntmps115 rfl (fun F hF => ?_)
  unfold m_impl_checking_examine_F at hm
  refine T_seq ?_
  refine T_region ?_
  refine TL_pure rfl rfl rfl rfl (op_assign rfl) ?_
  refine TL_nil ?_
  refine T_seq ?_
  refine T_region ?_
  refine TL_pure rfl rfl rfl rfl (op_move rfl) ?_
  refine TL_pure rfl rfl rfl rfl (op_nilCheck rfl rfl) ?_
  refine TL_pure rfl rfl rfl rfl (op_fieldAddr fa111_0 rfl rfl) ?_
  refine TL_pure rfl rfl rfl rfl (op_load_one ag24 rfl rfl) ?_
  refine TL_pure rfl rfl rfl rfl (op_move rfl) ?_
  obtain ⟨r22, hr22, hm⟩ := bindS hm
  refine TL_callF (c_impl_behindProof 1000 p0.proof p1 r22 hr22) Try.call51 rfl rfl rfl rfl rfl ?_
  refine TL_pure rfl rfl rfl rfl (op_move rfl) ?_
  refine TL_pure rfl rfl rfl rfl (op_extract rfl rfl) ?_
  refine TL_pure rfl rfl rfl rfl (op_extract rfl rfl) ?_
  refine TL_pure rfl rfl rfl rfl (op_extract rfl rfl) ?_
  refine TL_pure rfl rfl rfl rfl (op_assign rfl) ?_
  refine TL_pure rfl rfl rfl rfl (op_assign rfl) ?_
  refine TL_pure rfl rfl rfl rfl (op_assign rfl) ?_
  refine TL_nil ?_
  refine T_seq ?_
  refine T_region ?_
  refine TL_pure rfl rfl rfl rfl (op_move rfl) ?_
  refine TL_pure rfl rfl rfl rfl (op_nilCheck rfl rfl) ?_
  refine TL_pure rfl rfl rfl rfl (op_fieldAddr fa111_0 rfl rfl) ?_
  refine TL_pure rfl rfl rfl rfl (op_load_one ag24 rfl rfl) ?_
  refine TL_pure rfl rfl rfl rfl (op_move rfl) ?_
  obtain ⟨x31, hx31, hm⟩ := bindS hm
  refine TL_pure rfl rfl rfl rfl (op_indexT el24 rfl rfl hx31 rfl) ?_
  refine TL_pure rfl rfl rfl rfl (op_load_agg ag62 sz62 rfl rfl rfl) ?_
  refine TL_alloc 11 z62 rfl rfl rfl rfl rfl rfl rfl ?_
  refine TL_store_box sz62 rfl rfl rfl rfl rfl rfl rfl rfl rfl ?_
  refine TL_nil ?_
  refine T_seq ?_
  refine T_region ?_
  refine TL_pure rfl rfl rfl rfl (op_move rfl) ?_
  refine TL_pure rfl rfl rfl rfl (op_nilCheck rfl rfl) ?_
  refine TL_pure rfl rfl rfl rfl (op_fieldAddr fa111_1 rfl rfl) ?_
  refine TL_pure rfl rfl rfl rfl (op_load_one ag109 rfl rfl) ?_
  refine TL_pure rfl rfl rfl rfl (op_move rfl) ?_
  refine TL_pure rfl rfl rfl rfl (op_move rfl) ?_
  refine TL_mapSet (f := aMa_i64aLa_Term) (encK := a_i64) (encV := aLa_Term) p1 p2 Try.underlying109 (key_i64 Try.underlying3) (fun _ => rfl) rfl rfl rfl rfl rfl rfl rfl rfl rfl ?_
  refine TL_nil ?_
  refine T_seq ?_
  refine T_region ?_
  refine TL_pure rfl rfl rfl rfl (op_move rfl) ?_
  refine TL_pure rfl rfl rfl rfl (op_lenT Try.underlying39 rfl (List.length_map _)) ?_
  refine TL_fact (fun _ _ _ hr => RelP.slLen (i := 39) rfl hr) (fun hlen40 => ?_)
  rw [List.length_map] at hlen40
  refine TL_pure rfl rfl rfl rfl (op_lss rfl rfl) ?_
  refine TL_pure rfl rfl rfl rfl (op_assign rfl) ?_
  refine TL_nil ?_
  refine T_join (fun (j2 : Unit) => ⟨[(0, .ptr 0 0 0), (1, .int .i64 p1), (7, .int .i64 r22.1)], [(0, .box [.sl 5 (List.map a_Node p0.proof), .mp 1, .int .i64 p0.flaw]), (1, .box (.tr (.tup (List.map aMa_i64aLa_Term (mput p0.contexts p1 p2))) :: jk))]⟩) (fun j2 => m_impl_checking_examine_F_J2 p0 p1 p2 r22 j2 = some out) (fun j2 hm => ?_) (fun hj2 => ?_)
  · unfold m_impl_checking_examine_F_J2 at hm
    refine T_seq ?_
    refine T_seq ?_
    refine T_region ?_
    refine TL_pure rfl rfl rfl rfl (op_move rfl) ?_
    refine TL_pure rfl rfl rfl rfl (op_nilCheck rfl rfl) ?_
    refine TL_pure rfl rfl rfl rfl (op_fieldAddr fa111_2 rfl rfl) ?_
    refine TL_pure rfl rfl rfl rfl (op_load_one ag2 rfl rfl) ?_
    refine TL_pure rfl rfl rfl rfl (op_lss rfl rfl) ?_
    refine TL_nil ?_
    refine T_cond rfl (fun hq => ?_) (fun hq => ?_)
    · replace hm := condT hq hm
      refine T_region ?_
      refine TL_pure rfl rfl rfl rfl (op_move rfl) ?_
      refine TL_pure rfl rfl rfl rfl (op_move rfl) ?_
      refine TL_pure rfl rfl rfl rfl (op_nilCheck rfl rfl) ?_
      refine TL_pure rfl rfl rfl rfl (op_fieldAddr fa111_2 rfl rfl) ?_
      refine TL_store_box sz2 rfl rfl rfl rfl rfl rfl rfl rfl rfl ?_
      refine TL_nil ?_
      refine T_seq ?_
      refine T_region ?_
      refine TL_pure rfl rfl rfl rfl (op_move rfl) ?_
      refine TL_pure rfl rfl rfl rfl (op_assign rfl) ?_
      refine TL_nil ?_
      refine T_keepH [6] [0, 1] rfl rfl rfl rfl (by rw [hF]; rfl) ?_
      refine T_ret ?_
      obtain rfl := someI hm
      refine ⟨[_], [0, 1], ⟨rfl, trivial⟩, ?_, rfl, rfl, rfl, rfl⟩
      rfl
    · replace hm := condF hq hm
      refine T_skip ?_
      refine T_seq ?_
      refine T_region ?_
      refine TL_pure rfl rfl rfl rfl (op_move rfl) ?_
      refine TL_pure rfl rfl rfl rfl (op_assign rfl) ?_
      refine TL_nil ?_
      refine T_keepH [6] [0, 1] rfl rfl rfl rfl (by rw [hF]; rfl) ?_
      refine T_ret ?_
      obtain rfl := someI hm
      refine ⟨[_], [0, 1], ⟨rfl, trivial⟩, ?_, rfl, rfl, rfl, rfl⟩
      rfl
  · refine T_seq ?_
    refine T_region ?_
    refine TL_pure rfl rfl rfl rfl (op_fieldAddr fa62_0 rfl rfl) ?_
    refine TL_pure rfl rfl rfl rfl (op_load_one ag2 rfl rfl) ?_
    refine TL_nil ?_
    refine T_block ?_
    refine T_seq ?_
    refine T_region ?_
    refine TL_pure rfl rfl rfl rfl (op_eql rfl rfl) ?_
    refine TL_pure rfl rfl rfl rfl (op_assign rfl) ?_
    refine TL_nil ?_
    refine T_cond rfl (fun hq => ?_) (fun hq => ?_)
    · replace hm := condT hq hm
      refine T_seq ?_
      refine T_region ?_
      refine TL_pure rfl rfl rfl rfl (op_move rfl) ?_
      refine TL_pure rfl rfl rfl rfl (op_fieldAddr fa62_3 rfl rfl) ?_
      refine TL_pure rfl rfl rfl rfl (op_load_one ag32 rfl rfl) ?_
      obtain ⟨r49, hr49, hm⟩ := bindS hm
      refine TL_callF (c_impl_closes p2 x31.Multipliers r49 hr49) Try.call65 rfl rfl rfl rfl rfl ?_
      refine TL_nil ?_
      refine T_cond rfl (fun hq => ?_) (fun hq => ?_)
      · replace hm := condT hq hm
        refine T_seq ?_
        refine T_region ?_
        refine TL_pure rfl rfl rfl rfl (op_move rfl) ?_
        refine TL_pure rfl rfl rfl rfl (op_assign rfl) ?_
        refine TL_nil ?_
        refine T_keepH [6] [0, 1] rfl rfl rfl rfl (by rw [hF]; rfl) ?_
        refine T_ret ?_
        obtain rfl := someI hm
        refine ⟨[_], [0, 1], ⟨rfl, trivial⟩, ?_, rfl, rfl, rfl, rfl⟩
        rfl
      · replace hm := condF hq hm
        refine T_skip ?_
        refine T_keepH [0, 1, 7] [0, 1] rfl rfl rfl rfl (by rw [hF]; rfl) ?_
        exact hj2 () hm
    · replace hm := condF hq hm
      refine T_seq ?_
      refine T_region ?_
      refine TL_pure rfl rfl rfl rfl (op_eql rfl rfl) ?_
      refine TL_pure rfl rfl rfl rfl (op_assign rfl) ?_
      refine TL_nil ?_
      refine T_cond rfl (fun hq => ?_) (fun hq => ?_)
      · replace hm := condT hq hm
        refine T_seq ?_
        refine T_region ?_
        refine TL_pure rfl rfl rfl rfl (op_fieldAddr fa62_2 rfl rfl) ?_
        refine TL_pure rfl rfl rfl rfl (op_load_agg ag40 sz40 rfl rfl rfl) ?_
        obtain ⟨r55, hr55, hm⟩ := bindS hm
        refine TL_callO [(1000, 16)] (c_impl_Term_opposite x31.Term r55 hr55) Try.call112 rfl rfl rfl rfl rfl rfl rfl rfl rfl rfl rfl rfl rfl ?_
        refine TL_alloc 17 z40 rfl rfl rfl rfl rfl rfl rfl ?_
        refine TL_store_box sz40 rfl rfl rfl rfl rfl rfl rfl rfl rfl ?_
        refine TL_nil ?_
        refine T_join (fun (j0 : Bool) => ⟨[(0, .ptr 0 0 0), (1, .int .i64 p1), (2, .sl 2 (List.map a_Term p2)), (7, .int .i64 r22.1), (10, .ptr 11 0 0), (12, .ptr 17 0 0), (60, .bool j0)], [(0, .box [.sl 5 (List.map a_Node p0.proof), .mp 1, .int .i64 p0.flaw]), (1, .box (.tr (.tup (List.map aMa_i64aLa_Term (mput p0.contexts p1 p2))) :: jk)), (11, .box [.int .i64 x31.Kind, .int .i64 x31.Fact, .int .i64 x31.Term.Const, .sl 1 (List.map a_i64 x31.Term.Coeffs), .sl 1 (List.map a_i64 x31.Multipliers)]), (16, .arr ⟨false, true⟩ 1 2 (List.map a_i64 r55.Coeffs)), (17, .box [.int .i64 r55.Const, .ow 16])]⟩) (fun j0 => m_impl_checking_examine_F_J0 rec_impl_checking_examine p0 p1 p2 r22 x31 r55 j0 = some out) (fun j0 hm => ?_) (fun hj0 => ?_)
        · unfold m_impl_checking_examine_F_J0 at hm
          refine T_cond rfl (fun hq => ?_) (fun hq => ?_)
          · replace hm := condT hq hm
            refine T_seq ?_
            refine T_region ?_
            refine TL_pure rfl rfl rfl rfl (op_move rfl) ?_
            refine TL_pure rfl rfl rfl rfl (op_move rfl) ?_
            refine TL_pure rfl rfl rfl rfl (op_addW rfl rfl) ?_
            refine TL_pure rfl rfl rfl rfl (op_move rfl) ?_
            refine TL_pure rfl rfl rfl rfl (op_fieldAddr fa62_2 rfl rfl) ?_
            refine TL_pure rfl rfl rfl rfl (op_load_agg ag40 sz40 rfl rfl rfl) ?_
            obtain ⟨r67, hr67, hm⟩ := bindS hm
            refine TL_callT (c_impl_with p2 x31.Term r67 hr67) Try.call83 rfl rfl rfl rfl rfl ?_
            obtain ⟨r68, hr68, hm⟩ := bindS hm
            refine TL_call [(0, 0), (1, 1)] [] [] (hrec_impl_checking_examine (checking.mk p0.proof (mput p0.contexts p1 p2) p0.flaw) (w64 (p1 + (1 : Int))) r67 r68 hr68) Try.call115 rfl rfl rfl rfl rfl ⟨rfl, rfl, trivial⟩ rfl rfl rfl rfl rfl rfl rfl rfl rfl rfl rfl ?_
            refine TL_pure rfl rfl rfl rfl (op_assign rfl) ?_
            refine TL_nil ?_
            refine T_seq ?_
            refine T_region ?_
            refine TL_pure rfl rfl rfl rfl (op_move rfl) ?_
            refine TL_pure rfl rfl rfl rfl (op_move rfl) ?_
            refine TL_pure rfl rfl rfl rfl (op_move rfl) ?_
            refine TL_pure rfl rfl rfl rfl (op_load_agg ag40 sz40 rfl rfl rfl) ?_
            refine TL_freeze 16 (by rw [hF]; rfl) rfl rfl rfl ?_
            obtain ⟨r73, hr73, hm⟩ := bindS hm
            refine TL_callT (c_impl_with p2 r55 r73 hr73) Try.call83 rfl rfl rfl rfl rfl ?_
            obtain ⟨r74, hr74, hm⟩ := bindS hm
            refine TL_call [(0, 0), (1, 1)] [] [] (hrec_impl_checking_examine r68.2 r68.1 r73 r74 hr74) Try.call115 rfl rfl rfl rfl rfl ⟨rfl, rfl, trivial⟩ rfl rfl rfl rfl rfl rfl rfl rfl rfl rfl rfl ?_
            refine TL_pure rfl rfl rfl rfl (op_assign rfl) ?_
            refine TL_nil ?_
            refine T_keepH [6] [0, 1] rfl rfl rfl rfl (by rw [hF]; rfl) ?_
            refine T_ret ?_
            obtain rfl := someI hm
            refine ⟨[_], [0, 1], ⟨rfl, trivial⟩, ?_, rfl, rfl, rfl, rfl⟩
            rfl
          · replace hm := condF hq hm
            refine T_skip ?_
            refine T_keepH [0, 1, 7] [0, 1] rfl rfl rfl rfl (by rw [hF]; rfl) ?_
            exact hj2 () hm
        · refine T_region ?_
          refine TL_pure rfl rfl rfl rfl (op_move rfl) ?_
          refine TL_pure rfl rfl rfl rfl (op_move rfl) ?_
          refine TL_split 57 rfl rfl rfl (fun hq => ?_) (fun hq => ?_)
          · replace hm := condT hq hm
            refine TL_want rfl rfl ?_
            refine TL_pure rfl rfl rfl rfl (op_load_agg ag40 sz40 rfl rfl rfl) ?_
            refine TL_want rfl rfl ?_
            obtain ⟨r59, hr59, hm⟩ := bindS hm
            refine TL_callF (c_impl_ValidTerm r55 r59 hr59) Try.call79 rfl rfl rfl rfl rfl ?_
            refine TL_pure rfl rfl rfl rfl (op_pick_true rfl rfl) ?_
            refine TL_nil ?_
            refine T_keepH [0, 1, 2, 7, 10, 12, 60] [0, 1, 11, 16, 17] rfl rfl rfl rfl (by rw [hF]; rfl) ?_
            exact hj0 r59 hm
          · replace hm := condF hq hm
            refine TL_pass rfl rfl rfl rfl rfl rfl rfl ?_
            refine TL_pass rfl rfl rfl rfl rfl rfl rfl ?_
            refine TL_pure rfl rfl rfl rfl (op_pick_false rfl rfl) ?_
            refine TL_nil ?_
            refine T_keepH [0, 1, 2, 7, 10, 12, 60] [0, 1, 11, 16, 17] rfl rfl rfl rfl (by rw [hF]; rfl) ?_
            exact hj0 false hm
      · replace hm := condF hq hm
        refine T_seq ?_
        refine T_region ?_
        refine TL_pure rfl rfl rfl rfl (op_eql rfl rfl) ?_
        refine TL_pure rfl rfl rfl rfl (op_assign rfl) ?_
        refine TL_nil ?_
        refine T_cond rfl (fun hq => ?_) (fun hq => ?_)
        · replace hm := condT hq hm
          refine T_join (fun (j1 : Bool) => ⟨[(0, .ptr 0 0 0), (1, .int .i64 p1), (2, .sl 2 (List.map a_Term p2)), (7, .int .i64 r22.1), (10, .ptr 11 0 0), (84, .bool j1)], [(0, .box [.sl 5 (List.map a_Node p0.proof), .mp 1, .int .i64 p0.flaw]), (1, .box (.tr (.tup (List.map aMa_i64aLa_Term (mput p0.contexts p1 p2))) :: jk)), (11, .box [.int .i64 x31.Kind, .int .i64 x31.Fact, .int .i64 x31.Term.Const, .sl 1 (List.map a_i64 x31.Term.Coeffs), .sl 1 (List.map a_i64 x31.Multipliers)])]⟩) (fun j1 => m_impl_checking_examine_F_J1 rec_impl_checking_examine p0 p1 p2 r22 x31 j1 = some out) (fun j1 hm => ?_) (fun hj1 => ?_)
          · unfold m_impl_checking_examine_F_J1 at hm
            refine T_cond rfl (fun hq => ?_) (fun hq => ?_)
            · replace hm := condT hq hm
              refine T_seq ?_
              refine T_region ?_
              refine TL_pure rfl rfl rfl rfl (op_move rfl) ?_
              refine TL_pure rfl rfl rfl rfl (op_fieldAddr fa62_1 rfl rfl) ?_
              refine TL_pure rfl rfl rfl rfl (op_load_one ag2 rfl rfl) ?_
              obtain ⟨x89, hx89, hm⟩ := bindS hm
              refine TL_pure rfl rfl rfl rfl (op_indexT el39 rfl rfl hx89 rfl) ?_
              refine TL_pure rfl rfl rfl rfl (op_load_agg ag40 sz40 rfl rfl rfl) ?_
              obtain ⟨r91, hr91, hm⟩ := bindS hm
              refine TL_callO [(1000, 18)] (c_impl_Term_tightened x89 r91 hr91) Try.call134 rfl rfl rfl rfl rfl rfl rfl rfl rfl rfl rfl rfl rfl ?_
              refine TL_pure rfl rfl rfl rfl (op_move rfl) ?_
              refine TL_pure rfl rfl rfl rfl (op_extract rfl rfl) ?_
              refine TL_pure rfl rfl rfl rfl (op_extract rfl rfl) ?_
              refine TL_alloc 19 z40 rfl rfl rfl rfl rfl rfl rfl ?_
              refine TL_store_box sz40 rfl rfl rfl rfl rfl rfl rfl rfl rfl ?_
              refine TL_pure rfl rfl rfl rfl (op_assign rfl) ?_
              refine TL_nil ?_
              refine T_seq ?_
              refine T_region ?_
              refine TL_pure rfl rfl rfl rfl (op_move rfl) ?_
              refine TL_nil ?_
              refine T_cond rfl (fun hq => ?_) (fun hq => ?_)
              · replace hm := condT hq hm
                refine T_seq ?_
                refine T_region ?_
                refine TL_pure rfl rfl rfl rfl (op_move rfl) ?_
                refine TL_pure rfl rfl rfl rfl (op_move rfl) ?_
                refine TL_pure rfl rfl rfl rfl (op_addW rfl rfl) ?_
                refine TL_pure rfl rfl rfl rfl (op_move rfl) ?_
                refine TL_pure rfl rfl rfl rfl (op_load_agg ag40 sz40 rfl rfl rfl) ?_
                refine TL_freeze 18 (by rw [hF]; rfl) rfl rfl rfl ?_
                obtain ⟨r100, hr100, hm⟩ := bindS hm
                refine TL_callT (c_impl_with p2 r91.1 r100 hr100) Try.call83 rfl rfl rfl rfl rfl ?_
                obtain ⟨r101, hr101, hm⟩ := bindS hm
                refine TL_call [(0, 0), (1, 1)] [] [] (hrec_impl_checking_examine (checking.mk p0.proof (mput p0.contexts p1 p2) p0.flaw) (w64 (p1 + (1 : Int))) r100 r101 hr101) Try.call115 rfl rfl rfl rfl rfl ⟨rfl, rfl, trivial⟩ rfl rfl rfl rfl rfl rfl rfl rfl rfl rfl rfl ?_
                refine TL_pure rfl rfl rfl rfl (op_assign rfl) ?_
                refine TL_nil ?_
                refine T_keepH [6] [0, 1] rfl rfl rfl rfl (by rw [hF]; rfl) ?_
                refine T_ret ?_
                obtain rfl := someI hm
                refine ⟨[_], [0, 1], ⟨rfl, trivial⟩, ?_, rfl, rfl, rfl, rfl⟩
                rfl
              · replace hm := condF hq hm
                refine T_skip ?_
                refine T_keepH [0, 1, 7] [0, 1] rfl rfl rfl rfl (by rw [hF]; rfl) ?_
                exact hj2 () hm
            · replace hm := condF hq hm
              refine T_skip ?_
              refine T_keepH [0, 1, 7] [0, 1] rfl rfl rfl rfl (by rw [hF]; rfl) ?_
              exact hj2 () hm
          · refine T_region ?_
            refine TL_pure rfl rfl rfl rfl (op_move rfl) ?_
            refine TL_pure rfl rfl rfl rfl (op_move rfl) ?_
            refine TL_split 78 rfl rfl rfl (fun hq => ?_) (fun hq => ?_)
            · replace hm := condT hq hm
              refine TL_want rfl rfl ?_
              refine TL_pure rfl rfl rfl rfl (op_fieldAddr fa62_1 rfl rfl) ?_
              refine TL_want rfl rfl ?_
              refine TL_pure rfl rfl rfl rfl (op_load_one ag2 rfl rfl) ?_
              refine TL_want rfl rfl ?_
              refine TL_pure rfl rfl rfl rfl (op_move rfl) ?_
              refine TL_want rfl rfl ?_
              refine TL_pure rfl rfl rfl rfl (op_lenT Try.underlying39 rfl (List.length_map _)) ?_
              refine TL_want rfl rfl ?_
              obtain ⟨r83, hr83, hm⟩ := bindS hm
              refine TL_callF (c_impl_isIndex x31.Fact (p2.length : Int) r83 hr83) Try.call50 rfl rfl rfl rfl rfl ?_
              refine TL_pure rfl rfl rfl rfl (op_pick_true rfl rfl) ?_
              refine TL_nil ?_
              refine T_keepH [0, 1, 2, 7, 10, 84] [0, 1, 11] rfl rfl rfl rfl (by rw [hF]; rfl) ?_
              exact hj1 r83 hm
            · replace hm := condF hq hm
              refine TL_pass rfl rfl rfl rfl rfl rfl rfl ?_
              refine TL_pass rfl rfl rfl rfl rfl rfl rfl ?_
              refine TL_pass rfl rfl rfl rfl rfl rfl rfl ?_
              refine TL_pass rfl rfl rfl rfl rfl rfl rfl ?_
              refine TL_pass rfl rfl rfl rfl rfl rfl rfl ?_
              refine TL_pure rfl rfl rfl rfl (op_pick_false rfl rfl) ?_
              refine TL_nil ?_
              refine T_keepH [0, 1, 2, 7, 10, 84] [0, 1, 11] rfl rfl rfl rfl (by rw [hF]; rfl) ?_
              exact hj1 false hm
        · replace hm := condF hq hm
          refine T_skip ?_
          refine T_keepH [0, 1, 7] [0, 1] rfl rfl rfl rfl (by rw [hF]; rfl) ?_
          exact hj2 () hm
theorem c_impl_checking_examine : ∀ (n : Nat) (p0 : checking) (p1 : Int) (p2 : List Term) (out : Int × checking), m_impl_checking_examine n p0 p1 p2 = some out → ACall Try.prog 115 [.ptr 0 0 0, .int .i64 p1, .sl 2 (List.map a_Term p2)] [(0, .box [.sl 5 (List.map a_Node p0.proof), .mp 1, .int .i64 p0.flaw]), (1, .box (.tr (.tup (List.map aMa_i64aLa_Term p0.contexts)) :: jk))] (.int .i64 out.1) [(0, .box [.sl 5 (List.map a_Node out.2.proof), .mp 1, .int .i64 out.2.flaw]), (1, .box (.tr (.tup (List.map aMa_i64aLa_Term out.2.contexts)) :: jk))] := by
  intro n
  induction n with
  | zero => intro p0 p1 p2 out hm; cases hm
  | succ n ih => intro p0 p1 p2 out hm; exact c_impl_checking_examine_F (m_impl_checking_examine n) ih p0 p1 p2 out hm
theorem c_impl_examined (p0 : Sequent) (p1 : List Node) (out : checking × Bool) (hm : m_impl_examined p0 p1 = some out) : ACall Try.prog 73 [.agg [.sl 2 (List.map a_Term p0.Facts), .int .i64 p0.Goal.Const, .sl 1 (List.map a_i64 p0.Goal.Coeffs)], .sl 5 (List.map a_Node p1)] [] (bif out.2 then .tup [.ptr 1000 0 0, .bool true] else .tup [.nilp, .bool false]) (bif out.2 then [(1000, .box [.sl 5 (List.map a_Node out.1.proof), .mp 1001, .int .i64 out.1.flaw]), (1001, .box (.tr (.tup (List.map aMa_i64aLa_Term out.1.contexts)) :: jk))] else []) := by
  refine ACall.intro Try.func73 rfl Try.ntmps73 rfl (fun F hF => ?_)
  unfold m_impl_examined at hm
  refine T_seq ?_
  refine T_region ?_
  refine TL_box 11 rfl rfl rfl rfl rfl rfl rfl ?_
  refine TL_pure rfl rfl rfl rfl (op_assign rfl) ?_
  refine TL_pure rfl rfl rfl rfl (op_assign rfl) ?_
  refine TL_nil ?_
  refine T_seq ?_
  refine T_region ?_
  refine TL_pure rfl rfl rfl rfl (op_load_agg ag42 sz42 rfl rfl rfl) ?_
  obtain ⟨r11, hr11, hm⟩ := bindS hm
  refine TL_callO [(1000, 12)] (c_impl_ContextOf p0 r11 hr11) Try.call64 rfl rfl rfl rfl rfl rfl rfl rfl rfl rfl rfl rfl rfl ?_
  refine TL_pure rfl rfl rfl rfl (op_move rfl) ?_
  refine TL_pure rfl rfl rfl rfl (op_extract rfl rfl) ?_
  refine TL_pure rfl rfl rfl rfl (op_extract rfl rfl) ?_
  refine TL_pure rfl rfl rfl rfl (op_assign rfl) ?_
  refine TL_pure rfl rfl rfl rfl (op_assign rfl) ?_
  refine TL_nil ?_
  refine T_seq ?_
  refine T_seq ?_
  refine T_region ?_
  refine TL_pure rfl rfl rfl rfl (op_move rfl) ?_
  refine TL_pure rfl rfl rfl rfl (op_not rfl) ?_
  refine TL_pure rfl rfl rfl rfl (op_move rfl) ?_
  refine TL_split 16 rfl rfl rfl (fun hq => ?_) (fun hq => ?_)
  · replace hm := condT hq hm
    refine TL_pass rfl rfl rfl rfl rfl rfl rfl ?_
    refine TL_pass rfl rfl rfl rfl rfl rfl rfl ?_
    refine TL_pass rfl rfl rfl rfl rfl rfl rfl ?_
    refine TL_pure rfl rfl rfl rfl (op_pick_true rfl rfl) ?_
    refine TL_nil ?_
    refine T_cond_true rfl ?_
    refine T_seq ?_
    refine T_region ?_
    refine TL_pure rfl rfl rfl rfl (op_assign rfl) ?_
    refine TL_pure rfl rfl rfl rfl (op_assign rfl) ?_
    refine TL_nil ?_
    refine T_keepH [4, 5] [] rfl rfl rfl rfl (by rw [hF]; rfl) ?_
    refine T_ret ?_
    obtain rfl := someI hm
    refine ⟨[_, _], [], ⟨rfl, rfl, trivial⟩, ?_, rfl, rfl, rfl, rfl⟩
    rfl
  · replace hm := condF hq hm
    refine TL_want rfl rfl ?_
    refine TL_pure rfl rfl rfl rfl (op_move rfl) ?_
    refine TL_want rfl rfl ?_
    obtain ⟨r18, hr18, hm⟩ := bindS hm
    refine TL_callF (c_impl_IsProof p1 r18 hr18) Try.call32 rfl rfl rfl rfl rfl ?_
    refine TL_want rfl rfl ?_
    refine TL_pure rfl rfl rfl rfl (op_not rfl) ?_
    refine TL_pure rfl rfl rfl rfl (op_pick_false rfl rfl) ?_
    refine TL_nil ?_
    refine T_cond rfl (fun hq => ?_) (fun hq => ?_)
    · replace hm := condT hq hm
      refine T_seq ?_
      refine T_region ?_
      refine TL_pure rfl rfl rfl rfl (op_assign rfl) ?_
      refine TL_pure rfl rfl rfl rfl (op_assign rfl) ?_
      refine TL_nil ?_
      refine T_keepH [4, 5] [] rfl rfl rfl rfl (by rw [hF]; rfl) ?_
      refine T_ret ?_
      obtain rfl := someI hm
      refine ⟨[_, _], [], ⟨rfl, rfl, trivial⟩, ?_, rfl, rfl, rfl, rfl⟩
      rfl
    · replace hm := condF hq hm
      refine T_skip ?_
      refine T_seq ?_
      refine T_region ?_
      refine TL_pure rfl rfl rfl rfl (op_move rfl) ?_
      refine TL_makeMap (J := jk) 13 rfl rfl rfl rfl rfl rfl ?_
      refine TL_pure rfl rfl rfl rfl (op_buildP pl111 z111 rfl rfl rfl rfl rfl) ?_
      refine TL_box 14 rfl rfl rfl rfl rfl rfl rfl ?_
      refine TL_pure rfl rfl rfl rfl (op_assign rfl) ?_
      refine TL_nil ?_
      refine T_seq ?_
      refine T_region ?_
      refine TL_pure rfl rfl rfl rfl (op_move rfl) ?_
      refine TL_pure rfl rfl rfl rfl (op_move rfl) ?_
      refine TL_freeze 12 (by rw [hF]; rfl) rfl rfl rfl ?_
      obtain ⟨r27, hr27, hm⟩ := bindS hm
      refine TL_call [(0, 14), (1, 13)] [] [] (c_impl_checking_examine 1000 (checking.mk p1 ([] : List (Int × (List Term))) (-1 : Int)) (0 : Int) r11.1 r27 hr27) Try.call115 rfl rfl rfl rfl rfl ⟨rfl, rfl, trivial⟩ rfl rfl rfl rfl rfl rfl rfl rfl rfl rfl rfl ?_
      refine TL_nil ?_
      refine T_seq ?_
      refine T_region ?_
      refine TL_pure rfl rfl rfl rfl (op_move rfl) ?_
      refine TL_pure rfl rfl rfl rfl (op_assign rfl) ?_
      refine TL_pure rfl rfl rfl rfl (op_assign rfl) ?_
      refine TL_nil ?_
      refine T_keepH [4, 5] [13, 14] rfl rfl rfl rfl (by rw [hF]; rfl) ?_
      refine T_ren [(13, 1001), (14, 1000)] rfl rfl rfl (by rw [hF]; rfl) ?_
      refine T_keepH [4, 5] [1000, 1001] rfl rfl rfl rfl (by rw [hF]; rfl) ?_
      refine T_ret ?_
      obtain rfl := someI hm
      refine ⟨[_, _], [1000, 1001], ⟨rfl, rfl, trivial⟩, ?_, rfl, rfl, rfl, rfl⟩
      rfl
theorem c_impl_CheckProof (p0 : Sequent) (p1 : List Node) (out : Bool) (hm : m_impl_CheckProof p0 p1 = some out) : ACall Try.prog 28 [.agg [.sl 2 (List.map a_Term p0.Facts), .int .i64 p0.Goal.Const, .sl 1 (List.map a_i64 p0.Goal.Coeffs)], .sl 5 (List.map a_Node p1)] [] (.bool out) [] := by
  refine ACall.intro Try.func28 rfl Try.ntmps28 rfl (fun F hF => ?_)
  unfold m_impl_CheckProof at hm
  refine T_seq ?_
  refine T_region ?_
  refine TL_box 11 rfl rfl rfl rfl rfl rfl rfl ?_
  refine TL_pure rfl rfl rfl rfl (op_assign rfl) ?_
  refine TL_nil ?_
  refine T_seq ?_
  refine T_region ?_
  refine TL_pure rfl rfl rfl rfl (op_load_agg ag42 sz42 rfl rfl rfl) ?_
  refine TL_pure rfl rfl rfl rfl (op_move rfl) ?_
  obtain ⟨r10, hr10, hm⟩ := bindS hm
  rcases Bool.eq_false_or_eq_true r10.2 with hq | hq
  · replace hm := condT hq hm
    refine TLE_call [] [(1000, 12), (1001, 13)] [] (by have hc := c_impl_examined p0 p1 r10 hr10; rw [hq] at hc; exact hc) (fun _ => rfl) Try.call73 rfl rfl rfl rfl rfl trivial rfl rfl rfl rfl rfl rfl rfl rfl rfl rfl rfl ?_
    refine TL_pure rfl rfl rfl rfl (op_move rfl) ?_
    refine TL_pure rfl rfl rfl rfl (op_extract rfl rfl) ?_
    refine TL_pure rfl rfl rfl rfl (op_extract rfl rfl) ?_
    refine TL_pure rfl rfl rfl rfl (op_assign rfl) ?_
    refine TL_pure rfl rfl rfl rfl (op_assign rfl) ?_
    refine TL_nil ?_
    refine T_seq ?_
    refine T_region ?_
    refine TL_pure rfl rfl rfl rfl (op_move rfl) ?_
    refine TL_pure rfl rfl rfl rfl (op_move rfl) ?_
    refine TL_want rfl rfl ?_
    refine TL_pure rfl rfl rfl rfl (op_move rfl) ?_
    refine TL_want rfl rfl ?_
    refine TL_pure rfl rfl rfl rfl (op_nilCheck rfl rfl) ?_
    refine TL_want rfl rfl ?_
    refine TL_pure rfl rfl rfl rfl (op_fieldAddr fa111_2 rfl rfl) ?_
    refine TL_want rfl rfl ?_
    refine TL_pure rfl rfl rfl rfl (op_load_one ag2 rfl rfl) ?_
    refine TL_want rfl rfl ?_
    refine TL_pure rfl rfl rfl rfl (op_lss rfl rfl) ?_
    refine TL_pure rfl rfl rfl rfl (op_pick_true rfl rfl) ?_
    refine TL_pure rfl rfl rfl rfl (op_assign rfl) ?_
    refine TL_nil ?_
    refine T_keepH [4] [] rfl rfl rfl rfl (by rw [hF]; rfl) ?_
    refine T_ret ?_
    obtain rfl := someI hm
    refine ⟨[_], [], ⟨rfl, trivial⟩, ?_, rfl, rfl, rfl, rfl⟩
    rfl
  · replace hm := condF hq hm
    refine TLE_call [] [] [] (by have hc := c_impl_examined p0 p1 r10 hr10; rw [hq] at hc; exact hc) (fun _ => rfl) Try.call73 rfl rfl rfl rfl rfl trivial rfl rfl rfl rfl rfl rfl rfl rfl rfl rfl rfl ?_
    refine TL_pure rfl rfl rfl rfl (op_move rfl) ?_
    refine TL_pure rfl rfl rfl rfl (op_extract rfl rfl) ?_
    refine TL_pure rfl rfl rfl rfl (op_extract rfl rfl) ?_
    refine TL_pure rfl rfl rfl rfl (op_assign rfl) ?_
    refine TL_pure rfl rfl rfl rfl (op_assign rfl) ?_
    refine TL_nil ?_
    refine T_seq ?_
    refine T_region ?_
    refine TL_pure rfl rfl rfl rfl (op_move rfl) ?_
    refine TL_pure rfl rfl rfl rfl (op_move rfl) ?_
    refine TL_pass rfl rfl rfl rfl rfl rfl rfl ?_
    refine TL_pass rfl rfl rfl rfl rfl rfl rfl ?_
    refine TL_pass rfl rfl rfl rfl rfl rfl rfl ?_
    refine TL_pass rfl rfl rfl rfl rfl rfl rfl ?_
    refine TL_pass rfl rfl rfl rfl rfl rfl rfl ?_
    refine TL_pure rfl rfl rfl rfl (op_pick_false rfl rfl) ?_
    refine TL_pure rfl rfl rfl rfl (op_assign rfl) ?_
    refine TL_nil ?_
    refine T_keepH [4] [] rfl rfl rfl rfl (by rw [hF]; rfl) ?_
    refine T_ret ?_
    obtain rfl := someI hm
    refine ⟨[_], [], ⟨rfl, trivial⟩, ?_, rfl, rfl, rfl, rfl⟩
    rfl
theorem c_impl_ownNodes (p0 : List Node) (out : List Node) (hm : m_impl_ownNodes p0 = some out) : ACall Try.prog 52 [.sl 5 (List.map a_Node p0)] [] (.ow 1000) [(1000, .arr ⟨false, true⟩ 5 62 (List.map a_Node out))] := by
  refine ACall.intro Try.func52 rfl Try.ntmps52 rfl (fun F hF => ?_)
  unfold m_impl_ownNodes at hm
  refine T_seq ?_
  refine T_region ?_
  refine TL_pure rfl rfl rfl rfl (op_assign rfl) ?_
  refine TL_nil ?_
  refine T_seq ?_
  refine T_region ?_
  refine TL_pure rfl rfl rfl rfl (op_assign rfl) ?_
  refine TL_nil ?_
  refine T_seq ?_
  refine T_seq ?_
  refine T_region ?_
  refine TL_pure rfl rfl rfl rfl (op_move rfl) ?_
  refine TL_pure rfl rfl rfl rfl (op_lenT Try.underlying24 rfl (List.length_map _)) ?_
  refine TL_fact (fun _ _ _ hr => RelP.slLen (i := 6) rfl hr) (fun hlen7 => ?_)
  rw [List.length_map] at hlen7
  refine TL_pure rfl rfl rfl rfl (op_move rfl) ?_
  refine TL_nil ?_
  refine T_block ?_
  refine T_ownNil 3 30 ⟨false, true⟩ 62 rfl rfl (sz := 5) rfl rfl rfl ?_
  refine T_keepH [3, 6, 7, 8] [30] rfl rfl rfl rfl (by rw [hF]; rfl) ?_
  refine T_ren [(30, 70000)] rfl rfl rfl (by rw [hF]; rfl) ?_
  refine T_loop ?_
  obtain ⟨u0, hl0, hm⟩ := bindS hm
  refine TR_forL2 p0 (m_impl_ownNodes_L0) (fun (s0 : List Node) => s0) (fun n0 (s0 : List Node) => ⟨[(3, .ow 70000), (6, .sl 5 (List.map a_Node p0)), (7, .int .i64 (p0.length : Int)), (8, .int .i64 (n0 : Int))], [(70000, .arr ⟨false, true⟩ 5 62 (List.map a_Node s0))]⟩) (fun u0 => .exit 0) (fun u0 => ⟨[(3, .ow 70000)], [(70000, .arr ⟨false, true⟩ 5 62 (List.map a_Node u0))]⟩) (fun u0 => m_impl_ownNodes_A0 u0 = some out) hl0 hm (fun u0 hm => ?_) (fun hx0 s0 hm => ?_) (fun hx0 n0 x0 s0 c0 hxn0 hlt0 hm hc0 => ?_)
  · unfold m_impl_ownNodes_A0 at hm
    refine T_seq ?_
    refine T_region ?_
    refine TL_pure rfl rfl rfl rfl (op_move rfl) ?_
    refine TL_pure rfl rfl rfl rfl (op_assign rfl) ?_
    refine TL_nil ?_
    refine T_keepH [2] [70000] rfl rfl rfl rfl (by rw [hF]; rfl) ?_
    refine T_ren [(70000, 1000)] rfl rfl rfl (by rw [hF]; rfl) ?_
    refine T_ret ?_
    obtain rfl := someI hm
    refine ⟨[_], [1000], ⟨rfl, trivial⟩, ?_, rfl, rfl, rfl, rfl⟩
    rfl
  · refine T_seq ?_
    refine T_region ?_
    refine TL_pure rfl rfl rfl rfl (op_lss rfl rfl) ?_
    refine TL_nil ?_
    refine T_seq ?_
    refine T_if_false rfl (decide_eq_false (by simp)) ?_
    refine T_keepH [3] [70000] rfl rfl rfl rfl (by rw [hF]; rfl) ?_
    refine T_exit ?_
    exact hx0 s0 hm
  · unfold m_impl_ownNodes_L0 at hm
    refine T_seq ?_
    refine T_region ?_
    refine TL_pure rfl rfl rfl rfl (op_lss rfl rfl) ?_
    refine TL_nil ?_
    refine T_seq ?_
    refine T_if_true rfl (decide_eq_true (Int.ofNat_lt.2 hlt0)) ?_
    refine T_skip ?_
    refine T_seq ?_
    refine T_block ?_
    refine T_seq ?_
    refine T_region ?_
    refine TL_pure rfl rfl rfl rfl (op_index_sl el24 rfl rfl rfl (get_map hxn0) rfl) ?_
    refine TL_pure rfl rfl rfl rfl (op_load_agg ag62 sz62 rfl rfl rfl) ?_
    refine TL_alloc 24 z62 rfl rfl rfl rfl rfl rfl rfl ?_
    refine TL_store_box sz62 rfl rfl rfl rfl rfl rfl rfl rfl rfl ?_
    refine TL_nil ?_
    refine T_seq ?_
    refine T_drawZ [7, 9] mix (by kernel_rfl) rfl ?_
    obtain ⟨r14, hr14, hm⟩ := bindS hm
    obtain ⟨r17, hr17, hm⟩ := bindS hm
    refine TZ_pure 0 (by kernel_rfl) rfl rfl rfl rfl rfl (op_fieldAddr fa62_2 rfl rfl) ?_
    refine TZ_pure 1 (by kernel_rfl) rfl rfl rfl rfl rfl (op_load_agg ag40 sz40 rfl rfl rfl) ?_
    refine TZ_pure 3 (by kernel_rfl) rfl rfl rfl rfl rfl (op_fieldAddr fa62_3 rfl rfl) ?_
    refine TZ_pure 4 (by kernel_rfl) rfl rfl rfl rfl rfl (op_load_one ag32 rfl rfl) ?_
    refine TZ_one 2 (by kernel_rfl) rfl ?_
    refine TL_callO [(1000, 27)] (c_impl_Term_own x0.Term r14 hr14) Try.call89 rfl rfl rfl rfl rfl rfl rfl rfl rfl rfl rfl rfl rfl ?_
    refine TL_nil ?_
    refine TZ_pure 6 (by kernel_rfl) rfl rfl rfl rfl rfl (op_fieldAddr fa62_2 rfl rfl) ?_
    refine TZ_one 5 (by kernel_rfl) rfl ?_
    refine TL_callO [(1000, 28)] (c_impl_copyInts x0.Multipliers r17 hr17) Try.call106 rfl rfl rfl rfl rfl rfl rfl rfl rfl rfl rfl rfl rfl ?_
    refine TL_nil ?_
    refine TZ_one 7 (by kernel_rfl) rfl ?_
    refine TL_store_box sz40 rfl rfl rfl rfl rfl rfl rfl rfl rfl ?_
    refine TL_nil ?_
    refine TZ_pure 8 (by kernel_rfl) rfl rfl rfl rfl rfl (op_fieldAddr fa62_3 rfl rfl) ?_
    refine TZ_one 9 (by kernel_rfl) rfl ?_
    refine TL_store_box sz32 rfl rfl rfl rfl rfl rfl rfl rfl rfl ?_
    refine TL_nil ?_
    refine TZ_done (by kernel_rfl) ?_
    refine T_region ?_
    refine TL_pure rfl rfl rfl rfl (op_move rfl) ?_
    refine TL_pure rfl rfl rfl rfl (op_load_agg ag62 sz62 rfl rfl rfl) ?_
    refine TL_buildSliceD (ids := [27, 28]) (es := List.map a_Node [(Node.mk x0.Kind x0.Fact r14 r17)]) 29 el24 z62 rfl rfl rfl rfl rfl rfl (by rw [hF]; intro j hj; simp only [List.mem_cons, List.not_mem_nil, or_false] at hj; rcases hj with rfl | rfl <;> rfl) rfl rfl rfl rfl rfl rfl ?_
    obtain ⟨q23, hq23, hm⟩ := bindS hm
    refine TL_appendDT (f := a_Node) (a := s0) (b := [(Node.mk x0.Kind x0.Fact r14 r17)]) el24 z62 rfl rfl rfl rfl rfl rfl rfl rfl (by rw [hF]; rfl) (capI_spec hq23) rfl rfl rfl rfl rfl ?_
    refine TL_pure rfl rfl rfl rfl (op_assign rfl) ?_
    refine TL_nil ?_
    refine T_region ?_
    refine TL_pure rfl rfl rfl rfl (op_addN rfl rfl (Nat.lt_of_lt_of_le hlt0 hlen7)) ?_
    refine TL_pure rfl rfl rfl rfl (op_move rfl) ?_
    refine TL_nil ?_
    refine TR_keepH [3, 6, 7, 8] [70000] rfl rfl rfl rfl (by rw [hF]; rfl) ?_
    obtain rfl := someI hm
    have hn := CtlOK_next hc0
    exact hn _ rfl
theorem c_impl_JoinProofs_2 (p0 : Int) (p1_0 : Int) (out : Int) (hm : m_impl_JoinProofs_2 p0 p1_0 = some out) : ACall Try.prog 86 [.int .i64 p0, .cp [.int .i64 p1_0]] [] (.int .i64 out) [] := by
  refine ACall.intro Try.func86 rfl Try.ntmps86 rfl (fun F hF => ?_)
  unfold m_impl_JoinProofs_2 at hm
  refine T_seq ?_
  refine T_region ?_
  refine TL_pure rfl rfl rfl rfl (op_assign rfl) ?_
  refine TL_nil ?_
  refine T_seq ?_
  refine T_seq ?_
  refine T_region ?_
  refine TL_pure rfl rfl rfl rfl (op_move rfl) ?_
  refine TL_nil ?_
  refine T_block ?_
  refine T_seq ?_
  refine T_region ?_
  refine TL_pure rfl rfl rfl rfl (op_load_one ag3 rfl rfl) ?_
  refine TL_pure rfl rfl rfl rfl (op_eql rfl rfl) ?_
  refine TL_pure rfl rfl rfl rfl (op_assign rfl) ?_
  refine TL_nil ?_
  refine T_cond rfl (fun hq => ?_) (fun hq => ?_)
  · replace hm := condT hq hm
    refine T_seq ?_
    refine T_region ?_
    refine TL_pure rfl rfl rfl rfl (op_load_one ag3 rfl rfl) ?_
    refine TL_pure rfl rfl rfl rfl (op_addW rfl rfl) ?_
    refine TL_pure rfl rfl rfl rfl (op_assign rfl) ?_
    refine TL_nil ?_
    refine T_keepH [3] [] rfl rfl rfl rfl (by rw [hF]; rfl) ?_
    refine T_ret ?_
    obtain rfl := someI hm
    refine ⟨[_], [], ⟨rfl, trivial⟩, ?_, rfl, rfl, rfl, rfl⟩
    rfl
  · replace hm := condF hq hm
    refine T_seq ?_
    refine T_region ?_
    refine TL_pure rfl rfl rfl rfl (op_load_one ag3 rfl rfl) ?_
    refine TL_pure rfl rfl rfl rfl (op_addW rfl rfl) ?_
    refine TL_pure rfl rfl rfl rfl (op_eql rfl rfl) ?_
    refine TL_pure rfl rfl rfl rfl (op_assign rfl) ?_
    refine TL_nil ?_
    refine T_cond rfl (fun hq => ?_) (fun hq => ?_)
    · replace hm := condT hq hm
      refine T_seq ?_
      refine T_region ?_
      refine TL_pure rfl rfl rfl rfl (op_load_one ag3 rfl rfl) ?_
      refine TL_pure rfl rfl rfl rfl (op_assign rfl) ?_
      refine TL_nil ?_
      refine T_keepH [3] [] rfl rfl rfl rfl (by rw [hF]; rfl) ?_
      refine T_ret ?_
      obtain rfl := someI hm
      refine ⟨[_], [], ⟨rfl, trivial⟩, ?_, rfl, rfl, rfl, rfl⟩
      rfl
    · replace hm := condF hq hm
      refine T_skip ?_
      refine T_seq ?_
      refine T_region ?_
      refine TL_pure rfl rfl rfl rfl (op_move rfl) ?_
      refine TL_pure rfl rfl rfl rfl (op_assign rfl) ?_
      refine TL_nil ?_
      refine T_keepH [3] [] rfl rfl rfl rfl (by rw [hF]; rfl) ?_
      refine T_ret ?_
      obtain rfl := someI hm
      refine ⟨[_], [], ⟨rfl, trivial⟩, ?_, rfl, rfl, rfl, rfl⟩
      rfl
theorem c_impl_JoinProofs_1 (p0 : Int) (out : Int) (hm : m_impl_JoinProofs_1 p0 = some out) : ACall Try.prog 85 [.int .i64 p0] [] (.int .i64 out) [] := by
  refine ACall.intro Try.func85 rfl Try.ntmps85 rfl (fun F hF => ?_)
  unfold m_impl_JoinProofs_1 at hm
  refine T_seq ?_
  refine T_region ?_
  refine TL_pure rfl rfl rfl rfl (op_assign rfl) ?_
  refine TL_nil ?_
  refine T_seq ?_
  refine T_region ?_
  refine TL_pure rfl rfl rfl rfl (op_move rfl) ?_
  refine TL_pure rfl rfl rfl rfl (op_assign rfl) ?_
  refine TL_nil ?_
  refine T_keepH [2] [] rfl rfl rfl rfl (by rw [hF]; rfl) ?_
  refine T_ret ?_
  obtain rfl := someI hm
  refine ⟨[_], [], ⟨rfl, trivial⟩, ?_, rfl, rfl, rfl, rfl⟩
  rfl
theorem c_impl_movedNodes_fJoinProofs_1_JoinProofs_2 (p0 : List Node) (v2_0_0 : Int) (out : List Node) (hm : m_impl_movedNodes_fJoinProofs_1_JoinProofs_2 p0 v2_0_0 = some out) : ACall Try.prog 84 [.sl 5 (List.map a_Node p0), .fn (.func 85) [] [], .fn (.func 86) [] [.cp [.int .i64 v2_0_0]]] [] (.sl 5 (List.map a_Node out)) [] := by
  refine ACall.intro Try.func84 rfl Try.ntmps84 rfl (fun F hF => ?_)
  unfold m_impl_movedNodes_fJoinProofs_1_JoinProofs_2 at hm
  refine T_seq ?_
  refine T_region ?_
  refine TL_pure rfl rfl rfl rfl (op_assign rfl) ?_
  refine TL_nil ?_
  refine T_seq ?_
  refine T_region ?_
  refine TL_pure rfl rfl rfl rfl (op_move rfl) ?_
  obtain ⟨r15, hr15, hm⟩ := bindS hm
  refine TL_callO [(1000, 11)] (c_impl_ownNodes p0 r15 hr15) Try.call52 rfl rfl rfl rfl rfl rfl rfl rfl rfl rfl rfl rfl rfl ?_
  refine TL_shallow 11 (by rw [hF]; rfl) rfl rfl rfl rfl ?_
  refine TL_pure rfl rfl rfl rfl (op_assign rfl) ?_
  refine TL_nil ?_
  refine T_seq ?_
  refine T_seq ?_
  refine T_region ?_
  refine TL_pure rfl rfl rfl rfl (op_move rfl) ?_
  refine TL_pure rfl rfl rfl rfl (op_lenO Try.underlying24 rfl rfl (List.length_map _)) ?_
  refine TL_fact (fun _ _ _ hr => RelP.owLen (id := 11) rfl hr) (fun hlen17 => ?_)
  rw [List.length_map] at hlen17
  refine TL_pure rfl rfl rfl rfl (op_move rfl) ?_
  refine TL_nil ?_
  refine T_block ?_
  refine T_keepH [1, 2, 7, 16, 17, 18] [11] rfl rfl rfl rfl (by rw [hF]; rfl) ?_
  refine T_loop ?_
  obtain ⟨u0, hl0, hm⟩ := bindS hm
  refine TR_iter2 (m_impl_movedNodes_fJoinProofs_1_JoinProofs_2_L0 v2_0_0 r15) (fun (s0 : (List Node) × Int) => ⟨[(1, .fn (.func 85) [] []), (2, .fn (.func 86) [] [.cp [.int .i64 v2_0_0]]), (7, .ow 11), (16, .ow 11), (17, .int .i64 (r15.length : Int)), (18, .int .i64 s0.2)], [(11, .arr ⟨false, false⟩ 5 62 (List.map a_Node s0.1))]⟩) (fun u0 => .exit 0) (fun u0 => ⟨[(7, .ow 11)], [(11, .arr ⟨false, false⟩ 5 62 (List.map a_Node u0))]⟩) (fun u0 => m_impl_movedNodes_fJoinProofs_1_JoinProofs_2_A0 u0 = some out) hl0 hm (fun u0 hm => ?_) (fun hx0 s0 c0 hm hc0 => ?_)
  · unfold m_impl_movedNodes_fJoinProofs_1_JoinProofs_2_A0 at hm
    refine T_seq ?_
    refine T_region ?_
    refine TL_pure rfl rfl rfl rfl (op_move rfl) ?_
    refine TL_pure rfl rfl rfl rfl (op_assign rfl) ?_
    refine TL_nil ?_
    refine T_keepH [6] [11] rfl rfl rfl rfl (by rw [hF]; rfl) ?_
    refine T_freeze 11 (by rw [hF]; rfl) rfl rfl rfl ?_
    refine T_ret ?_
    obtain rfl := someI hm
    refine ⟨[_], [], ⟨rfl, trivial⟩, ?_, rfl, rfl, rfl, rfl⟩
    rfl
  · unfold m_impl_movedNodes_fJoinProofs_1_JoinProofs_2_L0 at hm
    refine T_seq ?_
    refine T_region ?_
    refine TL_pure rfl rfl rfl rfl (op_lss rfl rfl) ?_
    refine TL_nil ?_
    refine T_seq ?_
    refine T_cond rfl (fun hq => ?_) (fun hq => ?_)
    · replace hm := condT hq hm
      refine T_skip ?_
      refine T_seq ?_
      refine T_block ?_
      refine T_seq ?_
      refine T_region ?_
      refine TL_pure rfl rfl rfl rfl (op_move rfl) ?_
      obtain ⟨x21, hx21, hm⟩ := bindS hm
      refine TL_pure rfl rfl rfl rfl (op_indexO el24 rfl rfl rfl hx21) ?_
      refine TL_pure rfl rfl rfl rfl (op_loadTN ag62 sz62 rfl rfl ((getI_spec hx21).2) rfl rfl rfl) ?_
      refine TL_alloc 18 z62 rfl rfl rfl rfl rfl rfl rfl ?_
      refine TL_pure rfl rfl rfl rfl (op_assign rfl) ?_
      refine TL_store_box sz62 rfl rfl rfl rfl rfl rfl rfl rfl rfl ?_
      refine TL_nil ?_
      refine T_seq ?_
      refine T_region ?_
      refine TL_pure rfl rfl rfl rfl (op_fieldAddr fa62_0 rfl rfl) ?_
      refine TL_pure rfl rfl rfl rfl (op_load_one ag2 rfl rfl) ?_
      refine TL_nil ?_
      refine T_block ?_
      refine T_seq ?_
      refine T_region ?_
      refine TL_pure rfl rfl rfl rfl (op_eql rfl rfl) ?_
      refine TL_pure rfl rfl rfl rfl (op_assign rfl) ?_
      refine TL_nil ?_
      refine T_cond rfl (fun hq => ?_) (fun hq => ?_)
      · replace hm := condT hq hm
        refine T_region ?_
        refine TL_pure rfl rfl rfl rfl (op_move rfl) ?_
        refine TL_pure rfl rfl rfl rfl (op_move rfl) ?_
        refine TL_pure rfl rfl rfl rfl (op_move rfl) ?_
        refine TL_pure rfl rfl rfl rfl (op_fieldAddr fa62_1 rfl rfl) ?_
        refine TL_pure rfl rfl rfl rfl (op_load_one ag2 rfl rfl) ?_
        obtain ⟨r32, hr32, hm⟩ := bindS hm
        refine TL_callV rfl (c_impl_JoinProofs_2 x21.Fact v2_0_0 r32 hr32) Try.call86 rfl rfl rfl rfl rfl ?_
        refine TL_pure rfl rfl rfl rfl (op_indexO el24 rfl rfl rfl hx21) ?_
        refine TL_pure rfl rfl rfl rfl (op_fieldAddr fa62_1 rfl rfl) ?_
        refine TL_storeT sz2 rfl rfl ((getI_spec hx21).2) (v' := (Node.mk x21.Kind r32 x21.Term x21.Multipliers)) rfl rfl rfl rfl rfl rfl rfl rfl rfl rfl ?_
        refine TL_nil ?_
        refine T_region ?_
        refine TL_pure rfl rfl rfl rfl (op_addW rfl rfl) ?_
        refine TL_pure rfl rfl rfl rfl (op_move rfl) ?_
        refine TL_nil ?_
        refine TR_keepH [1, 2, 7, 16, 17, 18] [11] rfl rfl rfl rfl (by rw [hF]; rfl) ?_
        obtain rfl := someI hm
        have hn := CtlOK_next hc0
        exact hn _ rfl
      · replace hm := condF hq hm
        refine T_seq ?_
        refine T_region ?_
        refine TL_pure rfl rfl rfl rfl (op_eql rfl rfl) ?_
        refine TL_pure rfl rfl rfl rfl (op_assign rfl) ?_
        refine TL_nil ?_
        refine T_cond rfl (fun hq => ?_) (fun hq => ?_)
        · replace hm := condT hq hm
          refine T_seq ?_
          refine T_region ?_
          refine TL_pure rfl rfl rfl rfl (op_move rfl) ?_
          refine TL_pure rfl rfl rfl rfl (op_fieldAddr fa62_3 rfl rfl) ?_
          refine TL_pure rfl rfl rfl rfl (op_load_one ag32 rfl rfl) ?_
          refine TL_pure rfl rfl rfl rfl (op_lenT Try.underlying32 rfl (List.length_map _)) ?_
          refine TL_fact (fun _ _ _ hr => RelP.slLen (i := 39) rfl hr) (fun hlen40 => ?_)
          rw [List.length_map] at hlen40
          obtain ⟨r41, hr41, hm⟩ := bindS hm
          refine TL_callV rfl (c_impl_JoinProofs_1 (x21.Multipliers.length : Int) r41 hr41) Try.call85 rfl rfl rfl rfl rfl ?_
          obtain ⟨k42, hk42, hm⟩ := bindS hm
          refine TL_make 19 (n := k42) el32 z2 rfl rfl rfl rfl rfl rfl (makeI_spec hk42).1 (makeI_spec hk42).1 (makeI_spec hk42).2 rfl rfl rfl rfl ?_
          refine TL_nils 19 (List.map a_i64 (List.replicate k42 (0 : Int))) (by rw [hF]; rfl) rfl (ElR.rep (z := .int .i64 (0 : Int)) (g := a_i64) (x := (0 : Int)) ⟨⟨rfl, rfl⟩, trivial⟩ k42) rfl ?_
          refine TL_pure rfl rfl rfl rfl (op_assign rfl) ?_
          refine TL_nil ?_
          refine T_seq ?_
          refine T_seq ?_
          refine T_region ?_
          refine TL_pure rfl rfl rfl rfl (op_fieldAddr fa62_3 rfl rfl) ?_
          refine TL_pure rfl rfl rfl rfl (op_load_one ag32 rfl rfl) ?_
          refine TL_pure rfl rfl rfl rfl (op_lenT Try.underlying32 rfl (List.length_map _)) ?_
          refine TL_pure rfl rfl rfl rfl (op_move rfl) ?_
          refine TL_nil ?_
          refine T_block ?_
          refine T_keepH [1, 2, 7, 8, 10, 16, 17, 18, 44, 45, 46] [11, 19] rfl rfl rfl rfl (by rw [hF]; rfl) ?_
          refine T_loop ?_
          obtain ⟨u1, hl1, hm⟩ := bindS hm
          refine TR_forL2 x21.Multipliers (m_impl_movedNodes_fJoinProofs_1_JoinProofs_2_L1 v2_0_0) (fun (s1 : List Int) => s1) (fun n1 (s1 : List Int) => ⟨[(1, .fn (.func 85) [] []), (2, .fn (.func 86) [] [.cp [.int .i64 v2_0_0]]), (7, .ow 11), (8, .int .i64 s0.2), (10, .ow 19), (16, .ow 11), (17, .int .i64 (r15.length : Int)), (18, .int .i64 s0.2), (44, .sl 1 (List.map a_i64 x21.Multipliers)), (45, .int .i64 (x21.Multipliers.length : Int)), (46, .int .i64 (n1 : Int))], [(11, .arr ⟨false, false⟩ 5 62 (List.map a_Node s0.1)), (19, .arr ⟨false, false⟩ 1 2 (List.map a_i64 s1))]⟩) (fun u1 => .exit 3) (fun u1 => ⟨[(1, .fn (.func 85) [] []), (2, .fn (.func 86) [] [.cp [.int .i64 v2_0_0]]), (7, .ow 11), (8, .int .i64 s0.2), (10, .ow 19), (16, .ow 11), (17, .int .i64 (r15.length : Int)), (18, .int .i64 s0.2)], [(11, .arr ⟨false, false⟩ 5 62 (List.map a_Node s0.1)), (19, .arr ⟨false, false⟩ 1 2 (List.map a_i64 u1))]⟩) (fun u1 => m_impl_movedNodes_fJoinProofs_1_JoinProofs_2_A1 s0 x21 u1 = some c0) hl1 hm (fun u1 hm => ?_) (fun hx1 s1 hm => ?_) (fun hx1 n1 x1 s1 c1 hxn1 hlt1 hm hc1 => ?_)
          · unfold m_impl_movedNodes_fJoinProofs_1_JoinProofs_2_A1 at hm
            refine T_region ?_
            refine TL_pure rfl rfl rfl rfl (op_move rfl) ?_
            refine TL_pure rfl rfl rfl rfl (op_move rfl) ?_
            refine TL_pure rfl rfl rfl rfl (op_move rfl) ?_
            refine TL_pure rfl rfl rfl rfl (op_indexO el24 rfl rfl rfl hx21) ?_
            refine TL_pure rfl rfl rfl rfl (op_fieldAddr fa62_3 rfl rfl) ?_
            refine TL_freeze 19 (by rw [hF]; rfl) rfl rfl rfl ?_
            refine TL_storeT sz32 rfl rfl ((getI_spec hx21).2) (v' := (Node.mk x21.Kind x21.Fact x21.Term u1)) rfl rfl rfl rfl rfl rfl rfl rfl rfl rfl ?_
            refine TL_nil ?_
            refine T_region ?_
            refine TL_pure rfl rfl rfl rfl (op_addW rfl rfl) ?_
            refine TL_pure rfl rfl rfl rfl (op_move rfl) ?_
            refine TL_nil ?_
            refine TR_keepH [1, 2, 7, 16, 17, 18] [11] rfl rfl rfl rfl (by rw [hF]; rfl) ?_
            obtain rfl := someI hm
            have hn := CtlOK_next hc0
            exact hn _ rfl
          · refine T_seq ?_
            refine T_region ?_
            refine TL_pure rfl rfl rfl rfl (op_lss rfl rfl) ?_
            refine TL_nil ?_
            refine T_seq ?_
            refine T_if_false rfl (decide_eq_false (by simp)) ?_
            refine T_keepH [1, 2, 7, 8, 10, 16, 17, 18] [11, 19] rfl rfl rfl rfl (by rw [hF]; rfl) ?_
            refine T_exit ?_
            exact hx1 s1 hm
          · unfold m_impl_movedNodes_fJoinProofs_1_JoinProofs_2_L1 at hm
            refine T_seq ?_
            refine T_region ?_
            refine TL_pure rfl rfl rfl rfl (op_lss rfl rfl) ?_
            refine TL_nil ?_
            refine T_seq ?_
            refine T_if_true rfl (decide_eq_true (Int.ofNat_lt.2 hlt1)) ?_
            refine T_skip ?_
            refine T_seq ?_
            refine T_block ?_
            refine T_seq ?_
            refine T_region ?_
            refine TL_pure rfl rfl rfl rfl (op_move rfl) ?_
            refine TL_pure rfl rfl rfl rfl (op_index_sl el32 rfl rfl rfl (get_map hxn1) rfl) ?_
            refine TL_pure rfl rfl rfl rfl (op_load_one ag2 rfl rfl) ?_
            refine TL_pure rfl rfl rfl rfl (op_assign rfl) ?_
            refine TL_pure rfl rfl rfl rfl (op_assign rfl) ?_
            refine TL_nil ?_
            refine T_seq ?_
            refine T_region ?_
            refine TL_pure rfl rfl rfl rfl (op_move rfl) ?_
            refine TL_pure rfl rfl rfl rfl (op_move rfl) ?_
            obtain ⟨r53, hr53, hm⟩ := bindS hm
            refine TL_callV rfl (c_impl_JoinProofs_2 (n1 : Int) v2_0_0 r53 hr53) Try.call86 rfl rfl rfl rfl rfl ?_
            refine TL_pure rfl rfl rfl rfl (op_assign rfl) ?_
            refine TL_nil ?_
            refine T_seq ?_
            refine T_region ?_
            refine TL_pure rfl rfl rfl rfl (op_move rfl) ?_
            refine TL_pure rfl rfl rfl rfl (op_geq rfl rfl) ?_
            refine TL_nil ?_
            refine T_cond rfl (fun hq => ?_) (fun hq => ?_)
            · replace hm := condT hq hm
              refine T_region ?_
              refine TL_pure rfl rfl rfl rfl (op_move rfl) ?_
              refine TL_pure rfl rfl rfl rfl (op_move rfl) ?_
              refine TL_pure rfl rfl rfl rfl (op_move rfl) ?_
              obtain ⟨x59, hx59, hm⟩ := bindS hm
              refine TL_pure rfl rfl rfl rfl (op_indexO el32 rfl rfl rfl hx59) ?_
              refine TL_storeT sz2 rfl rfl ((getI_spec hx59).2) (v' := x1) rfl rfl rfl rfl rfl rfl rfl rfl rfl rfl ?_
              refine TL_nil ?_
              refine T_region ?_
              refine TL_pure rfl rfl rfl rfl (op_addN rfl rfl (Nat.lt_of_lt_of_le hlt1 hlen40)) ?_
              refine TL_pure rfl rfl rfl rfl (op_move rfl) ?_
              refine TL_nil ?_
              refine TR_keepH [1, 2, 7, 8, 10, 16, 17, 18, 44, 45, 46] [11, 19] rfl rfl rfl rfl (by rw [hF]; rfl) ?_
              obtain rfl := someI hm
              have hn := CtlOK_next hc1
              exact hn _ rfl
            · replace hm := condF hq hm
              refine T_skip ?_
              refine T_region ?_
              refine TL_pure rfl rfl rfl rfl (op_addN rfl rfl (Nat.lt_of_lt_of_le hlt1 hlen40)) ?_
              refine TL_pure rfl rfl rfl rfl (op_move rfl) ?_
              refine TL_nil ?_
              refine TR_keepH [1, 2, 7, 8, 10, 16, 17, 18, 44, 45, 46] [11, 19] rfl rfl rfl rfl (by rw [hF]; rfl) ?_
              obtain rfl := someI hm
              have hn := CtlOK_next hc1
              exact hn _ rfl
        · replace hm := condF hq hm
          refine T_skip ?_
          refine T_region ?_
          refine TL_pure rfl rfl rfl rfl (op_addW rfl rfl) ?_
          refine TL_pure rfl rfl rfl rfl (op_move rfl) ?_
          refine TL_nil ?_
          refine TR_keepH [1, 2, 7, 16, 17, 18] [11] rfl rfl rfl rfl (by rw [hF]; rfl) ?_
          obtain rfl := someI hm
          have hn := CtlOK_next hc0
          exact hn _ rfl
    · replace hm := condF hq hm
      refine T_keepH [7] [11] rfl rfl rfl rfl (by rw [hF]; rfl) ?_
      refine T_exit ?_
      obtain rfl := someI hm
      have hn := CtlOK_out hc0
      exact hx0 s0.1 hn
theorem c_impl_JoinProofs_4 (p0 : Int) (p1_0 : Int) (out : Int) (hm : m_impl_JoinProofs_4 p0 p1_0 = some out) : ACall Try.prog 88 [.int .i64 p0, .cp [.int .i64 p1_0]] [] (.int .i64 out) [] := by
  refine ACall.intro Try.func88 rfl Try.ntmps88 rfl (fun F hF => ?_)
  unfold m_impl_JoinProofs_4 at hm
  refine T_seq ?_
  refine T_region ?_
  refine TL_pure rfl rfl rfl rfl (op_assign rfl) ?_
  refine TL_nil ?_
  refine T_seq ?_
  refine T_seq ?_
  refine T_region ?_
  refine TL_pure rfl rfl rfl rfl (op_move rfl) ?_
  refine TL_pure rfl rfl rfl rfl (op_load_one ag3 rfl rfl) ?_
  refine TL_pure rfl rfl rfl rfl (op_lss rfl rfl) ?_
  refine TL_nil ?_
  refine T_cond rfl (fun hq => ?_) (fun hq => ?_)
  · replace hm := condT hq hm
    refine T_seq ?_
    refine T_region ?_
    refine TL_pure rfl rfl rfl rfl (op_move rfl) ?_
    refine TL_pure rfl rfl rfl rfl (op_assign rfl) ?_
    refine TL_nil ?_
    refine T_keepH [3] [] rfl rfl rfl rfl (by rw [hF]; rfl) ?_
    refine T_ret ?_
    obtain rfl := someI hm
    refine ⟨[_], [], ⟨rfl, trivial⟩, ?_, rfl, rfl, rfl, rfl⟩
    rfl
  · replace hm := condF hq hm
    refine T_skip ?_
    refine T_seq ?_
    refine T_region ?_
    refine TL_pure rfl rfl rfl rfl (op_move rfl) ?_
    refine TL_pure rfl rfl rfl rfl (op_addW rfl rfl) ?_
    refine TL_pure rfl rfl rfl rfl (op_assign rfl) ?_
    refine TL_nil ?_
    refine T_keepH [3] [] rfl rfl rfl rfl (by rw [hF]; rfl) ?_
    refine T_ret ?_
    obtain rfl := someI hm
    refine ⟨[_], [], ⟨rfl, trivial⟩, ?_, rfl, rfl, rfl, rfl⟩
    rfl
theorem c_impl_JoinProofs_3 (p0 : Int) (out : Int) (hm : m_impl_JoinProofs_3 p0 = some out) : ACall Try.prog 87 [.int .i64 p0] [] (.int .i64 out) [] := by
  refine ACall.intro Try.func87 rfl Try.ntmps87 rfl (fun F hF => ?_)
  unfold m_impl_JoinProofs_3 at hm
  refine T_seq ?_
  refine T_region ?_
  refine TL_pure rfl rfl rfl rfl (op_assign rfl) ?_
  refine TL_nil ?_
  refine T_seq ?_
  refine T_region ?_
  refine TL_pure rfl rfl rfl rfl (op_move rfl) ?_
  refine TL_pure rfl rfl rfl rfl (op_addW rfl rfl) ?_
  refine TL_pure rfl rfl rfl rfl (op_assign rfl) ?_
  refine TL_nil ?_
  refine T_keepH [2] [] rfl rfl rfl rfl (by rw [hF]; rfl) ?_
  refine T_ret ?_
  obtain rfl := someI hm
  refine ⟨[_], [], ⟨rfl, trivial⟩, ?_, rfl, rfl, rfl, rfl⟩
  rfl
theorem c_impl_movedNodes_fJoinProofs_3_JoinProofs_4 (p0 : List Node) (v2_0_0 : Int) (out : List Node) (hm : m_impl_movedNodes_fJoinProofs_3_JoinProofs_4 p0 v2_0_0 = some out) : ACall Try.prog 84 [.sl 5 (List.map a_Node p0), .fn (.func 87) [] [], .fn (.func 88) [] [.cp [.int .i64 v2_0_0]]] [] (.sl 5 (List.map a_Node out)) [] := by
  refine ACall.intro Try.func84 rfl Try.ntmps84 rfl (fun F hF => ?_)
  unfold m_impl_movedNodes_fJoinProofs_3_JoinProofs_4 at hm
  refine T_seq ?_
  refine T_region ?_
  refine TL_pure rfl rfl rfl rfl (op_assign rfl) ?_
  refine TL_nil ?_
  refine T_seq ?_
  refine T_region ?_
  refine TL_pure rfl rfl rfl rfl (op_move rfl) ?_
  obtain ⟨r15, hr15, hm⟩ := bindS hm
  refine TL_callO [(1000, 11)] (c_impl_ownNodes p0 r15 hr15) Try.call52 rfl rfl rfl rfl rfl rfl rfl rfl rfl rfl rfl rfl rfl ?_
  refine TL_shallow 11 (by rw [hF]; rfl) rfl rfl rfl rfl ?_
  refine TL_pure rfl rfl rfl rfl (op_assign rfl) ?_
  refine TL_nil ?_
  refine T_seq ?_
  refine T_seq ?_
  refine T_region ?_
  refine TL_pure rfl rfl rfl rfl (op_move rfl) ?_
  refine TL_pure rfl rfl rfl rfl (op_lenO Try.underlying24 rfl rfl (List.length_map _)) ?_
  refine TL_fact (fun _ _ _ hr => RelP.owLen (id := 11) rfl hr) (fun hlen17 => ?_)
  rw [List.length_map] at hlen17
  refine TL_pure rfl rfl rfl rfl (op_move rfl) ?_
  refine TL_nil ?_
  refine T_block ?_
  refine T_keepH [1, 2, 7, 16, 17, 18] [11] rfl rfl rfl rfl (by rw [hF]; rfl) ?_
  refine T_loop ?_
  obtain ⟨u0, hl0, hm⟩ := bindS hm
  refine TR_iter2 (m_impl_movedNodes_fJoinProofs_3_JoinProofs_4_L0 v2_0_0 r15) (fun (s0 : (List Node) × Int) => ⟨[(1, .fn (.func 87) [] []), (2, .fn (.func 88) [] [.cp [.int .i64 v2_0_0]]), (7, .ow 11), (16, .ow 11), (17, .int .i64 (r15.length : Int)), (18, .int .i64 s0.2)], [(11, .arr ⟨false, false⟩ 5 62 (List.map a_Node s0.1))]⟩) (fun u0 => .exit 0) (fun u0 => ⟨[(7, .ow 11)], [(11, .arr ⟨false, false⟩ 5 62 (List.map a_Node u0))]⟩) (fun u0 => m_impl_movedNodes_fJoinProofs_3_JoinProofs_4_A0 u0 = some out) hl0 hm (fun u0 hm => ?_) (fun hx0 s0 c0 hm hc0 => ?_)
  · unfold m_impl_movedNodes_fJoinProofs_3_JoinProofs_4_A0 at hm
    refine T_seq ?_
    refine T_region ?_
    refine TL_pure rfl rfl rfl rfl (op_move rfl) ?_
    refine TL_pure rfl rfl rfl rfl (op_assign rfl) ?_
    refine TL_nil ?_
    refine T_keepH [6] [11] rfl rfl rfl rfl (by rw [hF]; rfl) ?_
    refine T_freeze 11 (by rw [hF]; rfl) rfl rfl rfl ?_
    refine T_ret ?_
    obtain rfl := someI hm
    refine ⟨[_], [], ⟨rfl, trivial⟩, ?_, rfl, rfl, rfl, rfl⟩
    rfl
  · unfold m_impl_movedNodes_fJoinProofs_3_JoinProofs_4_L0 at hm
    refine T_seq ?_
    refine T_region ?_
    refine TL_pure rfl rfl rfl rfl (op_lss rfl rfl) ?_
    refine TL_nil ?_
    refine T_seq ?_
    refine T_cond rfl (fun hq => ?_) (fun hq => ?_)
    · replace hm := condT hq hm
      refine T_skip ?_
      refine T_seq ?_
      refine T_block ?_
      refine T_seq ?_
      refine T_region ?_
      refine TL_pure rfl rfl rfl rfl (op_move rfl) ?_
      obtain ⟨x21, hx21, hm⟩ := bindS hm
      refine TL_pure rfl rfl rfl rfl (op_indexO el24 rfl rfl rfl hx21) ?_
      refine TL_pure rfl rfl rfl rfl (op_loadTN ag62 sz62 rfl rfl ((getI_spec hx21).2) rfl rfl rfl) ?_
      refine TL_alloc 18 z62 rfl rfl rfl rfl rfl rfl rfl ?_
      refine TL_pure rfl rfl rfl rfl (op_assign rfl) ?_
      refine TL_store_box sz62 rfl rfl rfl rfl rfl rfl rfl rfl rfl ?_
      refine TL_nil ?_
      refine T_seq ?_
      refine T_region ?_
      refine TL_pure rfl rfl rfl rfl (op_fieldAddr fa62_0 rfl rfl) ?_
      refine TL_pure rfl rfl rfl rfl (op_load_one ag2 rfl rfl) ?_
      refine TL_nil ?_
      refine T_block ?_
      refine T_seq ?_
      refine T_region ?_
      refine TL_pure rfl rfl rfl rfl (op_eql rfl rfl) ?_
      refine TL_pure rfl rfl rfl rfl (op_assign rfl) ?_
      refine TL_nil ?_
      refine T_cond rfl (fun hq => ?_) (fun hq => ?_)
      · replace hm := condT hq hm
        refine T_region ?_
        refine TL_pure rfl rfl rfl rfl (op_move rfl) ?_
        refine TL_pure rfl rfl rfl rfl (op_move rfl) ?_
        refine TL_pure rfl rfl rfl rfl (op_move rfl) ?_
        refine TL_pure rfl rfl rfl rfl (op_fieldAddr fa62_1 rfl rfl) ?_
        refine TL_pure rfl rfl rfl rfl (op_load_one ag2 rfl rfl) ?_
        obtain ⟨r32, hr32, hm⟩ := bindS hm
        refine TL_callV rfl (c_impl_JoinProofs_4 x21.Fact v2_0_0 r32 hr32) Try.call88 rfl rfl rfl rfl rfl ?_
        refine TL_pure rfl rfl rfl rfl (op_indexO el24 rfl rfl rfl hx21) ?_
        refine TL_pure rfl rfl rfl rfl (op_fieldAddr fa62_1 rfl rfl) ?_
        refine TL_storeT sz2 rfl rfl ((getI_spec hx21).2) (v' := (Node.mk x21.Kind r32 x21.Term x21.Multipliers)) rfl rfl rfl rfl rfl rfl rfl rfl rfl rfl ?_
        refine TL_nil ?_
        refine T_region ?_
        refine TL_pure rfl rfl rfl rfl (op_addW rfl rfl) ?_
        refine TL_pure rfl rfl rfl rfl (op_move rfl) ?_
        refine TL_nil ?_
        refine TR_keepH [1, 2, 7, 16, 17, 18] [11] rfl rfl rfl rfl (by rw [hF]; rfl) ?_
        obtain rfl := someI hm
        have hn := CtlOK_next hc0
        exact hn _ rfl
      · replace hm := condF hq hm
        refine T_seq ?_
        refine T_region ?_
        refine TL_pure rfl rfl rfl rfl (op_eql rfl rfl) ?_
        refine TL_pure rfl rfl rfl rfl (op_assign rfl) ?_
        refine TL_nil ?_
        refine T_cond rfl (fun hq => ?_) (fun hq => ?_)
        · replace hm := condT hq hm
          refine T_seq ?_
          refine T_region ?_
          refine TL_pure rfl rfl rfl rfl (op_move rfl) ?_
          refine TL_pure rfl rfl rfl rfl (op_fieldAddr fa62_3 rfl rfl) ?_
          refine TL_pure rfl rfl rfl rfl (op_load_one ag32 rfl rfl) ?_
          refine TL_pure rfl rfl rfl rfl (op_lenT Try.underlying32 rfl (List.length_map _)) ?_
          refine TL_fact (fun _ _ _ hr => RelP.slLen (i := 39) rfl hr) (fun hlen40 => ?_)
          rw [List.length_map] at hlen40
          obtain ⟨r41, hr41, hm⟩ := bindS hm
          refine TL_callV rfl (c_impl_JoinProofs_3 (x21.Multipliers.length : Int) r41 hr41) Try.call87 rfl rfl rfl rfl rfl ?_
          obtain ⟨k42, hk42, hm⟩ := bindS hm
          refine TL_make 19 (n := k42) el32 z2 rfl rfl rfl rfl rfl rfl (makeI_spec hk42).1 (makeI_spec hk42).1 (makeI_spec hk42).2 rfl rfl rfl rfl ?_
          refine TL_nils 19 (List.map a_i64 (List.replicate k42 (0 : Int))) (by rw [hF]; rfl) rfl (ElR.rep (z := .int .i64 (0 : Int)) (g := a_i64) (x := (0 : Int)) ⟨⟨rfl, rfl⟩, trivial⟩ k42) rfl ?_
          refine TL_pure rfl rfl rfl rfl (op_assign rfl) ?_
          refine TL_nil ?_
          refine T_seq ?_
          refine T_seq ?_
          refine T_region ?_
          refine TL_pure rfl rfl rfl rfl (op_fieldAddr fa62_3 rfl rfl) ?_
          refine TL_pure rfl rfl rfl rfl (op_load_one ag32 rfl rfl) ?_
          refine TL_pure rfl rfl rfl rfl (op_lenT Try.underlying32 rfl (List.length_map _)) ?_
          refine TL_pure rfl rfl rfl rfl (op_move rfl) ?_
          refine TL_nil ?_
          refine T_block ?_
          refine T_keepH [1, 2, 7, 8, 10, 16, 17, 18, 44, 45, 46] [11, 19] rfl rfl rfl rfl (by rw [hF]; rfl) ?_
          refine T_loop ?_
          obtain ⟨u1, hl1, hm⟩ := bindS hm
          refine TR_forL2 x21.Multipliers (m_impl_movedNodes_fJoinProofs_3_JoinProofs_4_L1 v2_0_0) (fun (s1 : List Int) => s1) (fun n1 (s1 : List Int) => ⟨[(1, .fn (.func 87) [] []), (2, .fn (.func 88) [] [.cp [.int .i64 v2_0_0]]), (7, .ow 11), (8, .int .i64 s0.2), (10, .ow 19), (16, .ow 11), (17, .int .i64 (r15.length : Int)), (18, .int .i64 s0.2), (44, .sl 1 (List.map a_i64 x21.Multipliers)), (45, .int .i64 (x21.Multipliers.length : Int)), (46, .int .i64 (n1 : Int))], [(11, .arr ⟨false, false⟩ 5 62 (List.map a_Node s0.1)), (19, .arr ⟨false, false⟩ 1 2 (List.map a_i64 s1))]⟩) (fun u1 => .exit 3) (fun u1 => ⟨[(1, .fn (.func 87) [] []), (2, .fn (.func 88) [] [.cp [.int .i64 v2_0_0]]), (7, .ow 11), (8, .int .i64 s0.2), (10, .ow 19), (16, .ow 11), (17, .int .i64 (r15.length : Int)), (18, .int .i64 s0.2)], [(11, .arr ⟨false, false⟩ 5 62 (List.map a_Node s0.1)), (19, .arr ⟨false, false⟩ 1 2 (List.map a_i64 u1))]⟩) (fun u1 => m_impl_movedNodes_fJoinProofs_3_JoinProofs_4_A1 s0 x21 u1 = some c0) hl1 hm (fun u1 hm => ?_) (fun hx1 s1 hm => ?_) (fun hx1 n1 x1 s1 c1 hxn1 hlt1 hm hc1 => ?_)
          · unfold m_impl_movedNodes_fJoinProofs_3_JoinProofs_4_A1 at hm
            refine T_region ?_
            refine TL_pure rfl rfl rfl rfl (op_move rfl) ?_
            refine TL_pure rfl rfl rfl rfl (op_move rfl) ?_
            refine TL_pure rfl rfl rfl rfl (op_move rfl) ?_
            refine TL_pure rfl rfl rfl rfl (op_indexO el24 rfl rfl rfl hx21) ?_
            refine TL_pure rfl rfl rfl rfl (op_fieldAddr fa62_3 rfl rfl) ?_
            refine TL_freeze 19 (by rw [hF]; rfl) rfl rfl rfl ?_
            refine TL_storeT sz32 rfl rfl ((getI_spec hx21).2) (v' := (Node.mk x21.Kind x21.Fact x21.Term u1)) rfl rfl rfl rfl rfl rfl rfl rfl rfl rfl ?_
            refine TL_nil ?_
            refine T_region ?_
            refine TL_pure rfl rfl rfl rfl (op_addW rfl rfl) ?_
            refine TL_pure rfl rfl rfl rfl (op_move rfl) ?_
            refine TL_nil ?_
            refine TR_keepH [1, 2, 7, 16, 17, 18] [11] rfl rfl rfl rfl (by rw [hF]; rfl) ?_
            obtain rfl := someI hm
            have hn := CtlOK_next hc0
            exact hn _ rfl
          · refine T_seq ?_
            refine T_region ?_
            refine TL_pure rfl rfl rfl rfl (op_lss rfl rfl) ?_
            refine TL_nil ?_
            refine T_seq ?_
            refine T_if_false rfl (decide_eq_false (by simp)) ?_
            refine T_keepH [1, 2, 7, 8, 10, 16, 17, 18] [11, 19] rfl rfl rfl rfl (by rw [hF]; rfl) ?_
            refine T_exit ?_
            exact hx1 s1 hm
          · unfold m_impl_movedNodes_fJoinProofs_3_JoinProofs_4_L1 at hm
            refine T_seq ?_
            refine T_region ?_
            refine TL_pure rfl rfl rfl rfl (op_lss rfl rfl) ?_
            refine TL_nil ?_
            refine T_seq ?_
            refine T_if_true rfl (decide_eq_true (Int.ofNat_lt.2 hlt1)) ?_
            refine T_skip ?_
            refine T_seq ?_
            refine T_block ?_
            refine T_seq ?_
            refine T_region ?_
            refine TL_pure rfl rfl rfl rfl (op_move rfl) ?_
            refine TL_pure rfl rfl rfl rfl (op_index_sl el32 rfl rfl rfl (get_map hxn1) rfl) ?_
            refine TL_pure rfl rfl rfl rfl (op_load_one ag2 rfl rfl) ?_
            refine TL_pure rfl rfl rfl rfl (op_assign rfl) ?_
            refine TL_pure rfl rfl rfl rfl (op_assign rfl) ?_
            refine TL_nil ?_
            refine T_seq ?_
            refine T_region ?_
            refine TL_pure rfl rfl rfl rfl (op_move rfl) ?_
            refine TL_pure rfl rfl rfl rfl (op_move rfl) ?_
            obtain ⟨r53, hr53, hm⟩ := bindS hm
            refine TL_callV rfl (c_impl_JoinProofs_4 (n1 : Int) v2_0_0 r53 hr53) Try.call88 rfl rfl rfl rfl rfl ?_
            refine TL_pure rfl rfl rfl rfl (op_assign rfl) ?_
            refine TL_nil ?_
            refine T_seq ?_
            refine T_region ?_
            refine TL_pure rfl rfl rfl rfl (op_move rfl) ?_
            refine TL_pure rfl rfl rfl rfl (op_geq rfl rfl) ?_
            refine TL_nil ?_
            refine T_cond rfl (fun hq => ?_) (fun hq => ?_)
            · replace hm := condT hq hm
              refine T_region ?_
              refine TL_pure rfl rfl rfl rfl (op_move rfl) ?_
              refine TL_pure rfl rfl rfl rfl (op_move rfl) ?_
              refine TL_pure rfl rfl rfl rfl (op_move rfl) ?_
              obtain ⟨x59, hx59, hm⟩ := bindS hm
              refine TL_pure rfl rfl rfl rfl (op_indexO el32 rfl rfl rfl hx59) ?_
              refine TL_storeT sz2 rfl rfl ((getI_spec hx59).2) (v' := x1) rfl rfl rfl rfl rfl rfl rfl rfl rfl rfl ?_
              refine TL_nil ?_
              refine T_region ?_
              refine TL_pure rfl rfl rfl rfl (op_addN rfl rfl (Nat.lt_of_lt_of_le hlt1 hlen40)) ?_
              refine TL_pure rfl rfl rfl rfl (op_move rfl) ?_
              refine TL_nil ?_
              refine TR_keepH [1, 2, 7, 8, 10, 16, 17, 18, 44, 45, 46] [11, 19] rfl rfl rfl rfl (by rw [hF]; rfl) ?_
              obtain rfl := someI hm
              have hn := CtlOK_next hc1
              exact hn _ rfl
            · replace hm := condF hq hm
              refine T_skip ?_
              refine T_region ?_
              refine TL_pure rfl rfl rfl rfl (op_addN rfl rfl (Nat.lt_of_lt_of_le hlt1 hlen40)) ?_
              refine TL_pure rfl rfl rfl rfl (op_move rfl) ?_
              refine TL_nil ?_
              refine TR_keepH [1, 2, 7, 8, 10, 16, 17, 18, 44, 45, 46] [11, 19] rfl rfl rfl rfl (by rw [hF]; rfl) ?_
              obtain rfl := someI hm
              have hn := CtlOK_next hc1
              exact hn _ rfl
        · replace hm := condF hq hm
          refine T_skip ?_
          refine T_region ?_
          refine TL_pure rfl rfl rfl rfl (op_addW rfl rfl) ?_
          refine TL_pure rfl rfl rfl rfl (op_move rfl) ?_
          refine TL_nil ?_
          refine TR_keepH [1, 2, 7, 16, 17, 18] [11] rfl rfl rfl rfl (by rw [hF]; rfl) ?_
          obtain rfl := someI hm
          have hn := CtlOK_next hc0
          exact hn _ rfl
    · replace hm := condF hq hm
      refine T_keepH [7] [11] rfl rfl rfl rfl (by rw [hF]; rfl) ?_
      refine T_exit ?_
      obtain rfl := someI hm
      have hn := CtlOK_out hc0
      exact hx0 s0.1 hn
theorem c_impl_accepted (p0 : Sequent) (p1 : List Node) (out : Sequent × (List Node) × Bool) (hm : m_impl_accepted p0 p1 = some out) : ACall Try.prog 90 [.agg [.sl 2 (List.map a_Term p0.Facts), .int .i64 p0.Goal.Const, .sl 1 (List.map a_i64 p0.Goal.Coeffs)], .sl 5 (List.map a_Node p1)] [] (.tup [.agg [.sl 2 (List.map a_Term out.1.Facts), .int .i64 out.1.Goal.Const, .sl 1 (List.map a_i64 out.1.Goal.Coeffs)], .sl 5 (List.map a_Node out.2.1), .bool out.2.2]) [] := by
  refine ACall.intro Try.func90 rfl Try.ntmps90 rfl (fun F hF => ?_)
  unfold m_impl_accepted at hm
  refine T_seq ?_
  refine T_region ?_
  refine TL_box 11 rfl rfl rfl rfl rfl rfl rfl ?_
  refine TL_alloc 12 z42 rfl rfl rfl rfl rfl rfl rfl ?_
  refine TL_pure rfl rfl rfl rfl (op_assign rfl) ?_
  refine TL_pure rfl rfl rfl rfl (op_assign rfl) ?_
  refine TL_nil ?_
  refine T_seq ?_
  refine T_seq ?_
  refine T_region ?_
  refine TL_pure rfl rfl rfl rfl (op_load_agg ag42 sz42 rfl rfl rfl) ?_
  refine TL_pure rfl rfl rfl rfl (op_move rfl) ?_
  obtain ⟨r9, hr9, hm⟩ := bindS hm
  refine TL_callF (c_impl_CheckProof p0 p1 r9 hr9) Try.call28 rfl rfl rfl rfl rfl ?_
  refine TL_pure rfl rfl rfl rfl (op_not rfl) ?_
  refine TL_nil ?_
  refine T_cond rfl (fun hq => ?_) (fun hq => ?_)
  · replace hm := condT hq hm
    refine T_seq ?_
    refine T_region ?_
    refine TL_pure rfl rfl rfl rfl (op_buildP pl42 z42 rfl rfl rfl rfl rfl) ?_
    refine TL_store_box sz42 rfl rfl rfl rfl rfl rfl rfl rfl rfl ?_
    refine TL_pure rfl rfl rfl rfl (op_assign rfl) ?_
    refine TL_pure rfl rfl rfl rfl (op_assign rfl) ?_
    refine TL_nil ?_
    refine T_keepH [4, 5, 6] [12] rfl rfl rfl rfl (by rw [hF]; rfl) ?_
    refine T_nilAt 5 (x' := .sl 5 (List.map a_Node ([] : List Node))) rfl (.inr ⟨_, rfl⟩) rfl ?_
    refine T_nilBox 12 (cs' := [.sl 2 (List.map a_Term ([] : List Term)), .int .i64 (0 : Int), .sl 1 (List.map a_i64 ([] : List Int))]) rfl (⟨_, _, rfl, .inr ⟨_, rfl⟩, ⟨_, _, rfl, rfl, ⟨_, _, rfl, .inr ⟨_, rfl⟩, rfl⟩⟩⟩) rfl ?_
    refine T_ret ?_
    obtain rfl := someI hm
    refine ⟨[_, _, _], [], ⟨⟨_, _, rfl, rfl, .inr ⟨ag42, _, _, sz42, rfl, rfl⟩⟩, rfl, rfl, trivial⟩, ?_, rfl, rfl, rfl, rfl⟩
    rfl
  · replace hm := condF hq hm
    refine T_skip ?_
    refine T_seq ?_
    refine T_region ?_
    refine TL_pure rfl rfl rfl rfl (op_load_agg ag42 sz42 rfl rfl rfl) ?_
    refine TL_pure rfl rfl rfl rfl (op_move rfl) ?_
    refine TL_store_box sz42 rfl rfl rfl rfl rfl rfl rfl rfl rfl ?_
    refine TL_pure rfl rfl rfl rfl (op_assign rfl) ?_
    refine TL_pure rfl rfl rfl rfl (op_assign rfl) ?_
    refine TL_nil ?_
    refine T_keepH [4, 5, 6] [12] rfl rfl rfl rfl (by rw [hF]; rfl) ?_
    refine T_ret ?_
    obtain rfl := someI hm
    refine ⟨[_, _, _], [], ⟨⟨_, _, rfl, rfl, .inr ⟨ag42, _, _, sz42, rfl, rfl⟩⟩, rfl, rfl, trivial⟩, ?_, rfl, rfl, rfl, rfl⟩
    rfl
theorem c_impl_JoinProofs (p0 : Sequent) (p1 : Term) (p2 : List Node) (p3 : List Node) (out : (List Node) × Bool) (hm : m_impl_JoinProofs p0 p1 p2 p3 = some out) : ACall Try.prog 36 [.agg [.sl 2 (List.map a_Term p0.Facts), .int .i64 p0.Goal.Const, .sl 1 (List.map a_i64 p0.Goal.Coeffs)], .agg [.int .i64 p1.Const, .sl 1 (List.map a_i64 p1.Coeffs)], .sl 5 (List.map a_Node p2), .sl 5 (List.map a_Node p3)] [] (.tup [.sl 5 (List.map a_Node out.1), .bool out.2]) [] := by
  refine ACall.intro Try.func36 rfl Try.ntmps36 rfl (fun F hF => ?_)
  unfold m_impl_JoinProofs at hm
  refine T_seq ?_
  refine T_region ?_
  refine TL_box 11 rfl rfl rfl rfl rfl rfl rfl ?_
  refine TL_box 12 rfl rfl rfl rfl rfl rfl rfl ?_
  refine TL_pure rfl rfl rfl rfl (op_assign rfl) ?_
  refine TL_pure rfl rfl rfl rfl (op_assign rfl) ?_
  refine TL_nil ?_
  refine T_seq ?_
  refine T_region ?_
  refine TL_pure rfl rfl rfl rfl (op_fieldAddr fa42_0 rfl rfl) ?_
  refine TL_pure rfl rfl rfl rfl (op_load_one ag39 rfl rfl) ?_
  refine TL_pure rfl rfl rfl rfl (op_lenT Try.underlying39 rfl (List.length_map _)) ?_
  refine TL_fact (fun _ _ _ hr => RelP.slLen (i := 17) rfl hr) (fun hlen18 => ?_)
  rw [List.length_map] at hlen18
  refine TL_alloc 13 z3 rfl rfl rfl rfl rfl rfl rfl ?_
  refine TL_store_box sz3 rfl rfl rfl rfl rfl rfl rfl rfl rfl ?_
  refine TL_nil ?_
  refine T_seq ?_
  refine T_seq ?_
  refine T_drawZ [] mix (by kernel_rfl) rfl ?_
  obtain ⟨r20, hr20, hm⟩ := bindS hm
  refine TZ_pure 0 (by kernel_rfl) rfl rfl rfl rfl rfl (op_load_agg ag42 sz42 rfl rfl rfl) ?_
  refine TZ_one 1 (by kernel_rfl) rfl ?_
  refine TL_callF (c_impl_ValidSequent p0 r20 hr20) Try.call74 rfl rfl rfl rfl rfl ?_
  refine TL_nil ?_
  refine TZ_pure 2 (by kernel_rfl) rfl rfl rfl rfl rfl (op_not rfl) ?_
  refine TZ_pure 3 (by kernel_rfl) rfl rfl rfl rfl rfl (op_move rfl) ?_
  refine TZ_split 22 rfl rfl rfl (fun hq => ?_) (fun hq => ?_)
  · replace hm := condT hq hm
    refine TZ_pass 4 (by kernel_rfl) rfl rfl rfl rfl rfl rfl rfl rfl ?_
    refine TZ_pass 5 (by kernel_rfl) rfl rfl rfl rfl rfl rfl rfl rfl ?_
    refine TZ_pass 6 (by kernel_rfl) rfl rfl rfl rfl rfl rfl rfl rfl ?_
    refine TZ_pass 7 (by kernel_rfl) rfl rfl rfl rfl rfl rfl rfl rfl ?_
    refine TZ_pass 8 (by kernel_rfl) rfl rfl rfl rfl rfl rfl rfl rfl ?_
    refine TZ_one 9 (by kernel_rfl) rfl ?_
    refine TL_pass rfl rfl rfl rfl rfl rfl rfl ?_
    refine TL_nil ?_
    refine TZ_pass 10 (by kernel_rfl) rfl rfl rfl rfl rfl rfl rfl rfl ?_
    refine TZ_pure 11 (by kernel_rfl) rfl rfl rfl rfl rfl (op_pick_true rfl rfl) ?_
    refine TZ_pure 12 (by kernel_rfl) rfl rfl rfl rfl rfl (op_move rfl) ?_
    refine TZ_pass 13 (by kernel_rfl) rfl rfl rfl rfl rfl rfl rfl rfl ?_
    refine TZ_pass 14 (by kernel_rfl) rfl rfl rfl rfl rfl rfl rfl rfl ?_
    refine TZ_pass 15 (by kernel_rfl) rfl rfl rfl rfl rfl rfl rfl rfl ?_
    refine TZ_pass 17 (by kernel_rfl) rfl rfl rfl rfl rfl rfl rfl rfl ?_
    refine TZ_pass 18 (by kernel_rfl) rfl rfl rfl rfl rfl rfl rfl rfl ?_
    refine TZ_pass 20 (by kernel_rfl) rfl rfl rfl rfl rfl rfl rfl rfl ?_
    refine TZ_one 16 (by kernel_rfl) rfl ?_
    refine TL_pass rfl rfl rfl rfl rfl rfl rfl ?_
    refine TL_nil ?_
    refine TZ_pass 19 (by kernel_rfl) rfl rfl rfl rfl rfl rfl rfl rfl ?_
    refine TZ_one 21 (by kernel_rfl) rfl ?_
    refine TL_pass rfl rfl rfl rfl rfl rfl rfl ?_
    refine TL_nil ?_
    refine TZ_pass 22 (by kernel_rfl) rfl rfl rfl rfl rfl rfl rfl rfl ?_
    refine TZ_pure 23 (by kernel_rfl) rfl rfl rfl rfl rfl (op_pick_true rfl rfl) ?_
    refine TZ_done (by kernel_rfl) ?_
    refine T_cond_true rfl ?_
    refine T_seq ?_
    refine T_region ?_
    refine TL_pure rfl rfl rfl rfl (op_assign rfl) ?_
    refine TL_pure rfl rfl rfl rfl (op_assign rfl) ?_
    refine TL_nil ?_
    refine T_keepH [8, 9] [] rfl rfl rfl rfl (by rw [hF]; rfl) ?_
    refine T_nilAt 8 (x' := .sl 5 (List.map a_Node ([] : List Node))) rfl (.inr ⟨_, rfl⟩) rfl ?_
    refine T_ret ?_
    obtain rfl := someI hm
    refine ⟨[_, _], [], ⟨rfl, rfl, trivial⟩, ?_, rfl, rfl, rfl, rfl⟩
    rfl
  · replace hm := condF hq hm
    obtain ⟨r28, hr28, hm⟩ := bindS hm
    refine TZ_pureW 4 (by kernel_rfl) rfl rfl rfl rfl rfl rfl rfl (op_fieldAddr fa42_0 rfl rfl) ?_
    refine TZ_pureW 5 (by kernel_rfl) rfl rfl rfl rfl rfl rfl rfl (op_load_one ag39 rfl rfl) ?_
    refine TZ_pureW 6 (by kernel_rfl) rfl rfl rfl rfl rfl rfl rfl (op_load_agg ag40 sz40 rfl rfl rfl) ?_
    refine TZ_pureW 7 (by kernel_rfl) rfl rfl rfl rfl rfl rfl rfl (op_buildP pl42 z42 rfl rfl rfl rfl rfl) ?_
    refine TZ_pureW 8 (by kernel_rfl) rfl rfl rfl rfl rfl rfl rfl (op_move rfl) ?_
    refine TZ_one 9 (by kernel_rfl) rfl ?_
    refine TL_want rfl rfl ?_
    refine TL_callF (c_impl_CheckProof (Sequent.mk p0.Facts p1) p2 r28 hr28) Try.call28 rfl rfl rfl rfl rfl ?_
    refine TL_nil ?_
    refine TZ_pureW 10 (by kernel_rfl) rfl rfl rfl rfl rfl rfl rfl (op_not rfl) ?_
    refine TZ_pure 11 (by kernel_rfl) rfl rfl rfl rfl rfl (op_pick_false rfl rfl) ?_
    refine TZ_pure 12 (by kernel_rfl) rfl rfl rfl rfl rfl (op_move rfl) ?_
    refine TZ_split 31 rfl rfl rfl (fun hq => ?_) (fun hq => ?_)
    · replace hm := condT hq hm
      refine TZ_pass 13 (by kernel_rfl) rfl rfl rfl rfl rfl rfl rfl rfl ?_
      refine TZ_pass 14 (by kernel_rfl) rfl rfl rfl rfl rfl rfl rfl rfl ?_
      refine TZ_pass 15 (by kernel_rfl) rfl rfl rfl rfl rfl rfl rfl rfl ?_
      refine TZ_pass 17 (by kernel_rfl) rfl rfl rfl rfl rfl rfl rfl rfl ?_
      refine TZ_pass 18 (by kernel_rfl) rfl rfl rfl rfl rfl rfl rfl rfl ?_
      refine TZ_pass 20 (by kernel_rfl) rfl rfl rfl rfl rfl rfl rfl rfl ?_
      refine TZ_one 16 (by kernel_rfl) rfl ?_
      refine TL_pass rfl rfl rfl rfl rfl rfl rfl ?_
      refine TL_nil ?_
      refine TZ_pass 19 (by kernel_rfl) rfl rfl rfl rfl rfl rfl rfl rfl ?_
      refine TZ_one 21 (by kernel_rfl) rfl ?_
      refine TL_pass rfl rfl rfl rfl rfl rfl rfl ?_
      refine TL_nil ?_
      refine TZ_pass 22 (by kernel_rfl) rfl rfl rfl rfl rfl rfl rfl rfl ?_
      refine TZ_pure 23 (by kernel_rfl) rfl rfl rfl rfl rfl (op_pick_true rfl rfl) ?_
      refine TZ_done (by kernel_rfl) ?_
      refine T_cond_true rfl ?_
      refine T_seq ?_
      refine T_region ?_
      refine TL_pure rfl rfl rfl rfl (op_assign rfl) ?_
      refine TL_pure rfl rfl rfl rfl (op_assign rfl) ?_
      refine TL_nil ?_
      refine T_keepH [8, 9] [] rfl rfl rfl rfl (by rw [hF]; rfl) ?_
      refine T_nilAt 8 (x' := .sl 5 (List.map a_Node ([] : List Node))) rfl (.inr ⟨_, rfl⟩) rfl ?_
      refine T_ret ?_
      obtain rfl := someI hm
      refine ⟨[_, _], [], ⟨rfl, rfl, trivial⟩, ?_, rfl, rfl, rfl, rfl⟩
      rfl
    · replace hm := condF hq hm
      obtain ⟨r35, hr35, hm⟩ := bindS hm
      obtain ⟨r40, hr40, hm⟩ := bindS hm
      refine TZ_pureW 13 (by kernel_rfl) rfl rfl rfl rfl rfl rfl rfl (op_fieldAddr fa42_0 rfl rfl) ?_
      refine TZ_pureW 14 (by kernel_rfl) rfl rfl rfl rfl rfl rfl rfl (op_load_one ag39 rfl rfl) ?_
      refine TZ_pureW 15 (by kernel_rfl) rfl rfl rfl rfl rfl rfl rfl (op_load_agg ag40 sz40 rfl rfl rfl) ?_
      refine TZ_pureW 17 (by kernel_rfl) rfl rfl rfl rfl rfl rfl rfl (op_fieldAddr fa42_1 rfl rfl) ?_
      refine TZ_pureW 18 (by kernel_rfl) rfl rfl rfl rfl rfl rfl rfl (op_load_agg ag40 sz40 rfl rfl rfl) ?_
      refine TZ_pureW 20 (by kernel_rfl) rfl rfl rfl rfl rfl rfl rfl (op_move rfl) ?_
      refine TZ_one 16 (by kernel_rfl) rfl ?_
      refine TL_want rfl rfl ?_
      refine TL_callT (c_impl_with p0.Facts p1 r35 hr35) Try.call83 rfl rfl rfl rfl rfl ?_
      refine TL_nil ?_
      refine TZ_pureW 19 (by kernel_rfl) rfl rfl rfl rfl rfl rfl rfl (op_buildP pl42 z42 rfl rfl rfl rfl rfl) ?_
      refine TZ_one 21 (by kernel_rfl) rfl ?_
      refine TL_want rfl rfl ?_
      refine TL_callF (c_impl_CheckProof (Sequent.mk r35 p0.Goal) p3 r40 hr40) Try.call28 rfl rfl rfl rfl rfl ?_
      refine TL_nil ?_
      refine TZ_pureW 22 (by kernel_rfl) rfl rfl rfl rfl rfl rfl rfl (op_not rfl) ?_
      refine TZ_pure 23 (by kernel_rfl) rfl rfl rfl rfl rfl (op_pick_false rfl rfl) ?_
      refine TZ_done (by kernel_rfl) ?_
      refine T_cond rfl (fun hq => ?_) (fun hq => ?_)
      · replace hm := condT hq hm
        refine T_seq ?_
        refine T_region ?_
        refine TL_pure rfl rfl rfl rfl (op_assign rfl) ?_
        refine TL_pure rfl rfl rfl rfl (op_assign rfl) ?_
        refine TL_nil ?_
        refine T_keepH [8, 9] [] rfl rfl rfl rfl (by rw [hF]; rfl) ?_
        refine T_nilAt 8 (x' := .sl 5 (List.map a_Node ([] : List Node))) rfl (.inr ⟨_, rfl⟩) rfl ?_
        refine T_ret ?_
        obtain rfl := someI hm
        refine ⟨[_, _], [], ⟨rfl, rfl, trivial⟩, ?_, rfl, rfl, rfl, rfl⟩
        rfl
      · replace hm := condF hq hm
        refine T_skip ?_
        refine T_seq ?_
        refine T_region ?_
        refine TL_pure rfl rfl rfl rfl (op_move rfl) ?_
        refine TL_freezeB 13 (by rw [hF]; rfl) rfl rfl rfl rfl ?_
        refine TL_pure rfl rfl rfl rfl (op_makeFunc rfl rfl) ?_
        obtain ⟨r45, hr45, hm⟩ := bindS hm
        refine TL_callT (c_impl_movedNodes_fJoinProofs_1_JoinProofs_2 p3 (p0.Facts.length : Int) r45 hr45) Try.call84 rfl rfl rfl rfl rfl ?_
        refine TL_pure rfl rfl rfl rfl (op_assign rfl) ?_
        refine TL_nil ?_
        refine T_seq ?_
        refine T_region ?_
        refine TL_pure rfl rfl rfl rfl (op_move rfl) ?_
        refine TL_pure rfl rfl rfl rfl (op_makeFunc rfl rfl) ?_
        obtain ⟨r48, hr48, hm⟩ := bindS hm
        refine TL_callT (c_impl_movedNodes_fJoinProofs_3_JoinProofs_4 p2 (p0.Facts.length : Int) r48 hr48) Try.call84 rfl rfl rfl rfl rfl ?_
        refine TL_pure rfl rfl rfl rfl (op_assign rfl) ?_
        refine TL_nil ?_
        refine T_seq ?_
        refine T_region ?_
        refine TL_pure rfl rfl rfl rfl (op_load_agg ag40 sz40 rfl rfl rfl) ?_
        obtain ⟨r50, hr50, hm⟩ := bindS hm
        refine TL_callO [(1000, 14)] (c_impl_Term_own p1 r50 hr50) Try.call89 rfl rfl rfl rfl rfl rfl rfl rfl rfl rfl rfl rfl rfl ?_
        refine TL_pure rfl rfl rfl rfl (op_buildP pl62 z62 rfl rfl rfl rfl rfl) ?_
        refine TL_freeze 14 (by rw [hF]; rfl) rfl rfl rfl ?_
        refine TL_nilAt 51 (x' := .agg [.int .i64 (2 : Int), .int .i64 (0 : Int), .int .i64 r50.Const, .sl 1 (List.map a_i64 r50.Coeffs), .sl 1 (List.map a_i64 ([] : List Int))]) rfl (⟨_, rfl, ⟨_, _, rfl, rfl, ⟨_, _, rfl, rfl, ⟨_, _, rfl, rfl, ⟨_, _, rfl, rfl, ⟨_, _, rfl, .inr ⟨_, rfl⟩, rfl⟩⟩⟩⟩⟩⟩) rfl ?_
        refine TL_buildSlice 15 (es := List.map a_Node ([(Node.mk (2 : Int) (0 : Int) r50 ([] : List Int))])) el24 z62 rfl rfl rfl rfl rfl rfl rfl rfl rfl ?_
        refine TL_pure rfl rfl rfl rfl (op_move rfl) ?_
        obtain ⟨q54, hq54, hm⟩ := bindS hm
        refine TL_appendT (f := a_Node) (a := [(Node.mk (2 : Int) (0 : Int) r50 ([] : List Int))]) (b := r45) el24 z62 rfl rfl rfl rfl rfl rfl rfl (capI_spec hq54) rfl rfl rfl rfl rfl ?_
        refine TL_pure rfl rfl rfl rfl (op_move rfl) ?_
        obtain ⟨q56, hq56, hm⟩ := bindS hm
        refine TL_appendT (f := a_Node) (a := ([(Node.mk (2 : Int) (0 : Int) r50 ([] : List Int))] ++ r45)) (b := r48) el24 z62 rfl rfl rfl rfl rfl rfl rfl (capI_spec hq56) rfl rfl rfl rfl rfl ?_
        refine TL_pure rfl rfl rfl rfl (op_assign rfl) ?_
        refine TL_nil ?_
        refine T_seq ?_
        refine T_region ?_
        refine TL_pure rfl rfl rfl rfl (op_load_agg ag42 sz42 rfl rfl rfl) ?_
        refine TL_pure rfl rfl rfl rfl (op_move rfl) ?_
        refine TL_freeze 15 (by rw [hF]; rfl) rfl rfl rfl ?_
        obtain ⟨r60, hr60, hm⟩ := bindS hm
        refine TL_callT (c_impl_accepted p0 (([(Node.mk (2 : Int) (0 : Int) r50 ([] : List Int))] ++ r45) ++ r48) r60 hr60) Try.call90 rfl rfl rfl rfl rfl ?_
        refine TL_pure rfl rfl rfl rfl (op_move rfl) ?_
        refine TL_pure rfl rfl rfl rfl (op_extract rfl rfl) ?_
        refine TL_pure rfl rfl rfl rfl (op_extract rfl rfl) ?_
        refine TL_pure rfl rfl rfl rfl (op_extract rfl rfl) ?_
        refine TL_alloc 16 z42 rfl rfl rfl rfl rfl rfl rfl ?_
        refine TL_store_box sz42 rfl rfl rfl rfl rfl rfl rfl rfl rfl ?_
        refine TL_pure rfl rfl rfl rfl (op_assign rfl) ?_
        refine TL_pure rfl rfl rfl rfl (op_assign rfl) ?_
        refine TL_nil ?_
        refine T_seq ?_
        refine T_region ?_
        refine TL_pure rfl rfl rfl rfl (op_move rfl) ?_
        refine TL_pure rfl rfl rfl rfl (op_move rfl) ?_
        refine TL_pure rfl rfl rfl rfl (op_assign rfl) ?_
        refine TL_pure rfl rfl rfl rfl (op_assign rfl) ?_
        refine TL_nil ?_
        refine T_keepH [8, 9] [] rfl rfl rfl rfl (by rw [hF]; rfl) ?_
        refine T_ret ?_
        obtain rfl := someI hm
        refine ⟨[_, _], [], ⟨rfl, rfl, trivial⟩, ?_, rfl, rfl, rfl, rfl⟩
        rfl
theorem c_laws_FnLemmas (p0 : List Int) (p1 : List Int) (out : Bool) (hm : m_laws_FnLemmas p0 p1 = some out) : ACall Try.prog 7 [.sl 1 (List.map a_u8 p0), .sl 1 (List.map a_u8 p1)] [] (.bool out) [] := by
  refine ACall.intro Try.func7 rfl Try.ntmps7 rfl (fun F hF => ?_)
  unfold m_laws_FnLemmas at hm
  refine T_seq ?_
  refine T_region ?_
  refine TL_pure rfl rfl rfl rfl (op_assign rfl) ?_
  refine TL_nil ?_
  refine T_seq ?_
  refine T_seq ?_
  refine T_region ?_
  refine TL_pure rfl rfl rfl rfl (op_move rfl) ?_
  refine TL_pure rfl rfl rfl rfl (op_move rfl) ?_
  obtain ⟨r17, hr17, hm⟩ := bindS hm
  refine TL_callF (c_laws_r8Long p0 p1 r17 hr17) Try.call24 rfl rfl rfl rfl rfl ?_
  refine TL_nil ?_
  refine T_cond rfl (fun hq => ?_) (fun hq => ?_)
  · replace hm := condT hq hm
    refine T_seq ?_
    refine T_region ?_
    refine TL_pure rfl rfl rfl rfl (op_assign rfl) ?_
    refine TL_nil ?_
    refine T_keepH [4] [] rfl rfl rfl rfl (by rw [hF]; rfl) ?_
    refine T_ret ?_
    obtain rfl := someI hm
    refine ⟨[_], [], ⟨rfl, trivial⟩, ?_, rfl, rfl, rfl, rfl⟩
    rfl
  · replace hm := condF hq hm
    refine T_skip ?_
    refine T_seq ?_
    refine T_region ?_
    refine TL_pure rfl rfl rfl rfl (op_move rfl) ?_
    obtain ⟨r20, hr20, hm⟩ := bindS hm
    refine TL_callT (c_spec_R8Proved p0 r20 hr20) Try.call25 rfl rfl rfl rfl rfl ?_
    refine TL_pure rfl rfl rfl rfl (op_move rfl) ?_
    refine TL_pure rfl rfl rfl rfl (op_extract rfl rfl) ?_
    refine TL_pure rfl rfl rfl rfl (op_extract rfl rfl) ?_
    refine TL_alloc 11 z42 rfl rfl rfl rfl rfl rfl rfl ?_
    refine TL_store_box sz42 rfl rfl rfl rfl rfl rfl rfl rfl rfl ?_
    refine TL_pure rfl rfl rfl rfl (op_assign rfl) ?_
    refine TL_nil ?_
    refine T_join (fun (j0 : Unit) => ⟨[(1, .sl 1 (List.map a_u8 p1)), (5, .ptr 11 0 0), (6, .sl 5 (List.map a_Node r20.2)), (7, .ow 92)], [(11, .box [.sl 2 (List.map a_Term r20.1.Facts), .int .i64 r20.1.Goal.Const, .sl 1 (List.map a_i64 r20.1.Goal.Coeffs)]), (92, .arr ⟨false, false⟩ 2 40 (List.map a_Term ((([] : List Term) ++ r20.1.Facts) ++ [r20.1.Goal])))]⟩) (fun j0 => m_laws_FnLemmas_J0 p1 r20 j0 = some out) (fun j0 hm => ?_) (fun hj0 => ?_)
    · unfold m_laws_FnLemmas_J0 at hm
      refine T_join (fun (j1 : Int × (List Int) × Bool) => ⟨[(1, .sl 1 (List.map a_u8 p1)), (5, .ptr 11 0 0), (6, .sl 5 (List.map a_Node r20.2)), (7, .ow 92), (8, .ptr 1532 0 0), (9, .bool j1.2.2)], [(11, .box [.sl 2 (List.map a_Term r20.1.Facts), .int .i64 r20.1.Goal.Const, .sl 1 (List.map a_i64 r20.1.Goal.Coeffs)]), (92, .arr ⟨false, false⟩ 2 40 (List.map a_Term ((([] : List Term) ++ r20.1.Facts) ++ [r20.1.Goal]))), (1212, .arr ⟨false, true⟩ 1 2 (List.map a_i64 j1.2.1)), (1532, .box [.int .i64 j1.1, .ow 1212])]⟩) (fun j1 => m_laws_FnLemmas_J1 p1 r20 j1 = some out) (fun j1 hm => ?_) (fun hj1 => ?_)
      · unfold m_laws_FnLemmas_J1 at hm
        refine T_seq ?_
        refine T_seq ?_
        refine T_region ?_
        refine TL_pure rfl rfl rfl rfl (op_move rfl) ?_
        refine TL_pure rfl rfl rfl rfl (op_not rfl) ?_
        refine TL_nil ?_
        refine T_cond rfl (fun hq => ?_) (fun hq => ?_)
        · replace hm := condT hq hm
          refine T_seq ?_
          refine T_region ?_
          refine TL_pure rfl rfl rfl rfl (op_assign rfl) ?_
          refine TL_nil ?_
          refine T_keepH [4] [] rfl rfl rfl rfl (by rw [hF]; rfl) ?_
          refine T_ret ?_
          obtain rfl := someI hm
          refine ⟨[_], [], ⟨rfl, trivial⟩, ?_, rfl, rfl, rfl, rfl⟩
          rfl
        · replace hm := condF hq hm
          refine T_skip ?_
          refine T_seq ?_
          refine T_region ?_
          refine TL_pure rfl rfl rfl rfl (op_move rfl) ?_
          refine TL_pure rfl rfl rfl rfl (op_load_agg ag40 sz40 rfl rfl rfl) ?_
          refine TL_pure rfl rfl rfl rfl (op_buildP pl42 z42 rfl rfl rfl rfl rfl) ?_
          refine TL_alloc 1692 z42 rfl rfl rfl rfl rfl rfl rfl ?_
          refine TL_store_box sz42 rfl rfl rfl rfl rfl rfl rfl rfl rfl ?_
          refine TL_nil ?_
          refine T_seq ?_
          refine T_region ?_
          refine TL_pure rfl rfl rfl rfl (op_move rfl) ?_
          refine TL_pure rfl rfl rfl rfl (op_load_agg ag42 sz42 rfl rfl rfl) ?_
          refine TL_freeze 92 (by rw [hF]; rfl) rfl rfl rfl ?_
          refine TL_freeze 1212 (by rw [hF]; rfl) rfl rfl rfl ?_
          obtain ⟨r47, hr47, hm⟩ := bindS hm
          refine TL_callT (c_spec_R8Grown p1 (Sequent.mk ((([] : List Term) ++ r20.1.Facts) ++ [r20.1.Goal]) (Term.mk j1.1 j1.2.1)) r47 hr47) Try.call35 rfl rfl rfl rfl rfl ?_
          refine TL_pure rfl rfl rfl rfl (op_assign rfl) ?_
          refine TL_nil ?_
          refine T_seq ?_
          refine T_region ?_
          refine TL_pure rfl rfl rfl rfl (op_fieldAddr fa42_0 rfl rfl) ?_
          refine TL_pure rfl rfl rfl rfl (op_load_one ag39 rfl rfl) ?_
          refine TL_pure rfl rfl rfl rfl (op_load_agg ag40 sz40 rfl rfl rfl) ?_
          refine TL_pure rfl rfl rfl rfl (op_buildP pl42 z42 rfl rfl rfl rfl rfl) ?_
          refine TL_alloc 1693 z42 rfl rfl rfl rfl rfl rfl rfl ?_
          refine TL_store_box sz42 rfl rfl rfl rfl rfl rfl rfl rfl rfl ?_
          refine TL_nil ?_
          refine T_seq ?_
          refine T_region ?_
          refine TL_pure rfl rfl rfl rfl (op_load_agg ag42 sz42 rfl rfl rfl) ?_
          refine TL_pure rfl rfl rfl rfl (op_fieldAddr fa42_1 rfl rfl) ?_
          refine TL_pure rfl rfl rfl rfl (op_load_agg ag40 sz40 rfl rfl rfl) ?_
          refine TL_pure rfl rfl rfl rfl (op_move rfl) ?_
          refine TL_pure rfl rfl rfl rfl (op_move rfl) ?_
          obtain ⟨r58, hr58, hm⟩ := bindS hm
          refine TL_callT (c_impl_JoinProofs (Sequent.mk r20.1.Facts (Term.mk j1.1 j1.2.1)) r20.1.Goal r20.2 r47 r58 hr58) Try.call36 rfl rfl rfl rfl rfl ?_
          refine TL_pure rfl rfl rfl rfl (op_move rfl) ?_
          refine TL_pure rfl rfl rfl rfl (op_extract rfl rfl) ?_
          refine TL_pure rfl rfl rfl rfl (op_extract rfl rfl) ?_
          refine TL_pure rfl rfl rfl rfl (op_assign rfl) ?_
          refine TL_pure rfl rfl rfl rfl (op_assign rfl) ?_
          refine TL_nil ?_
          refine T_seq ?_
          refine T_seq ?_
          refine T_region ?_
          refine TL_pure rfl rfl rfl rfl (op_load_agg ag42 sz42 rfl rfl rfl) ?_
          refine TL_pure rfl rfl rfl rfl (op_move rfl) ?_
          obtain ⟨r63, hr63, hm⟩ := bindS hm
          refine TL_callF (c_impl_CheckProof r20.1 r20.2 r63 hr63) Try.call28 rfl rfl rfl rfl rfl ?_
          refine TL_pure rfl rfl rfl rfl (op_not rfl) ?_
          refine TL_pure rfl rfl rfl rfl (op_move rfl) ?_
          refine TL_split 65 rfl rfl rfl (fun hq => ?_) (fun hq => ?_)
          · replace hm := condT hq hm
            refine TL_pass rfl rfl rfl rfl rfl rfl rfl ?_
            refine TL_pass rfl rfl rfl rfl rfl rfl rfl ?_
            refine TL_pass rfl rfl rfl rfl rfl rfl rfl ?_
            refine TL_pass rfl rfl rfl rfl rfl rfl rfl ?_
            refine TL_pure rfl rfl rfl rfl (op_pick_true rfl rfl) ?_
            refine TL_pure rfl rfl rfl rfl (op_move rfl) ?_
            refine TL_pass rfl rfl rfl rfl rfl rfl rfl ?_
            refine TL_pass rfl rfl rfl rfl rfl rfl rfl ?_
            refine TL_pure rfl rfl rfl rfl (op_pick_true rfl rfl) ?_
            refine TL_nil ?_
            refine T_cond_true rfl ?_
            refine T_seq ?_
            refine T_region ?_
            refine TL_pure rfl rfl rfl rfl (op_assign rfl) ?_
            refine TL_nil ?_
            refine T_keepH [4] [] rfl rfl rfl rfl (by rw [hF]; rfl) ?_
            refine T_ret ?_
            obtain rfl := someI hm
            refine ⟨[_], [], ⟨rfl, trivial⟩, ?_, rfl, rfl, rfl, rfl⟩
            rfl
          · replace hm := condF hq hm
            refine TL_want rfl rfl ?_
            refine TL_pure rfl rfl rfl rfl (op_load_agg ag42 sz42 rfl rfl rfl) ?_
            refine TL_want rfl rfl ?_
            refine TL_pure rfl rfl rfl rfl (op_move rfl) ?_
            refine TL_want rfl rfl ?_
            obtain ⟨r68, hr68, hm⟩ := bindS hm
            refine TL_callF (c_impl_CheckProof (Sequent.mk ((([] : List Term) ++ r20.1.Facts) ++ [r20.1.Goal]) (Term.mk j1.1 j1.2.1)) r47 r68 hr68) Try.call28 rfl rfl rfl rfl rfl ?_
            refine TL_want rfl rfl ?_
            refine TL_pure rfl rfl rfl rfl (op_not rfl) ?_
            refine TL_pure rfl rfl rfl rfl (op_pick_false rfl rfl) ?_
            refine TL_pure rfl rfl rfl rfl (op_move rfl) ?_
            refine TL_join 3 (fun _ : Unit => ⟨[(6, .sl 5 (List.map a_Node r20.2)), (11, .sl 5 (List.map a_Node r47)), (12, .ptr 1693 0 0), (13, .sl 5 (List.map a_Node r58.1)), (74, .bool ((!r68) || (!r58.2)))], [(1693, .box [.sl 2 (List.map a_Term r20.1.Facts), .int .i64 j1.1, .sl 1 (List.map a_i64 j1.2.1)])]⟩) (fun _ => True) (fun _ _ => ?_) (fun hjj => ?_)
            · refine TL_nil ?_
              refine T_cond rfl (fun hq => ?_) (fun hq => ?_)
              · replace hm := condT hq hm
                refine T_seq ?_
                refine T_region ?_
                refine TL_pure rfl rfl rfl rfl (op_assign rfl) ?_
                refine TL_nil ?_
                refine T_keepH [4] [] rfl rfl rfl rfl (by rw [hF]; rfl) ?_
                refine T_ret ?_
                obtain rfl := someI hm
                refine ⟨[_], [], ⟨rfl, trivial⟩, ?_, rfl, rfl, rfl, rfl⟩
                rfl
              · replace hm := condF hq hm
                refine T_skip ?_
                refine T_seq ?_
                refine T_region ?_
                refine TL_pure rfl rfl rfl rfl (op_load_agg ag42 sz42 rfl rfl rfl) ?_
                refine TL_pure rfl rfl rfl rfl (op_move rfl) ?_
                obtain ⟨r77, hr77, hm⟩ := bindS hm
                refine TL_callF (c_impl_CheckProof (Sequent.mk r20.1.Facts (Term.mk j1.1 j1.2.1)) r58.1 r77 hr77) Try.call28 rfl rfl rfl rfl rfl ?_
                refine TL_pure rfl rfl rfl rfl (op_move rfl) ?_
                refine TL_join 10 (fun _ : Unit => ⟨[(88, .bool (r77 && (decide ((r58.1.length : Int) = (w64 ((w64 ((r20.2.length : Int) + (r47.length : Int))) + (1 : Int)))))))], []⟩) (fun _ => True) (fun _ _ => ?_) (fun hjj => ?_)
                · refine TL_pure rfl rfl rfl rfl (op_assign rfl) ?_
                  refine TL_nil ?_
                  refine T_keepH [4] [] rfl rfl rfl rfl (by rw [hF]; rfl) ?_
                  refine T_ret ?_
                  obtain rfl := someI hm
                  refine ⟨[_], [], ⟨rfl, trivial⟩, ?_, rfl, rfl, rfl, rfl⟩
                  rfl
                · refine TL_split 78 rfl rfl rfl (fun hq => ?_) (fun hq => ?_)
                  · refine TL_want rfl rfl ?_
                    refine TL_pure rfl rfl rfl rfl (op_move rfl) ?_
                    refine TL_want rfl rfl ?_
                    refine TL_pure rfl rfl rfl rfl (op_lenT Try.underlying24 rfl (List.length_map _)) ?_
                    refine TL_fact (fun _ _ _ hr => RelP.slLen (i := 79) rfl hr) (fun hlen80 => ?_)
                    rw [List.length_map] at hlen80
                    refine TL_want rfl rfl ?_
                    refine TL_pure rfl rfl rfl rfl (op_move rfl) ?_
                    refine TL_want rfl rfl ?_
                    refine TL_pure rfl rfl rfl rfl (op_lenT Try.underlying24 rfl (List.length_map _)) ?_
                    refine TL_fact (fun _ _ _ hr => RelP.slLen (i := 81) rfl hr) (fun hlen82 => ?_)
                    rw [List.length_map] at hlen82
                    refine TL_want rfl rfl ?_
                    refine TL_pure rfl rfl rfl rfl (op_move rfl) ?_
                    refine TL_want rfl rfl ?_
                    refine TL_pure rfl rfl rfl rfl (op_lenT Try.underlying24 rfl (List.length_map _)) ?_
                    refine TL_fact (fun _ _ _ hr => RelP.slLen (i := 83) rfl hr) (fun hlen84 => ?_)
                    rw [List.length_map] at hlen84
                    refine TL_want rfl rfl ?_
                    refine TL_pure rfl rfl rfl rfl (op_addW rfl rfl) ?_
                    refine TL_want rfl rfl ?_
                    refine TL_pure rfl rfl rfl rfl (op_addW rfl rfl) ?_
                    refine TL_want rfl rfl ?_
                    refine TL_pure rfl rfl rfl rfl (op_eql rfl rfl) ?_
                    refine TL_pure rfl rfl rfl rfl (op_pick_true rfl rfl) ?_
                    refine TL_keepH [88] [] rfl rfl rfl rfl (by rw [hF]; rfl) ?_
                    exact TL_cast _ (by first | (rw [hq, Bool.true_and]; done) | (rw [hq]; rfl)) (hjj () trivial)
                  · refine TL_pass rfl rfl rfl rfl rfl rfl rfl ?_
                    refine TL_pass rfl rfl rfl rfl rfl rfl rfl ?_
                    refine TL_pass rfl rfl rfl rfl rfl rfl rfl ?_
                    refine TL_pass rfl rfl rfl rfl rfl rfl rfl ?_
                    refine TL_pass rfl rfl rfl rfl rfl rfl rfl ?_
                    refine TL_pass rfl rfl rfl rfl rfl rfl rfl ?_
                    refine TL_pass rfl rfl rfl rfl rfl rfl rfl ?_
                    refine TL_pass rfl rfl rfl rfl rfl rfl rfl ?_
                    refine TL_pass rfl rfl rfl rfl rfl rfl rfl ?_
                    refine TL_pure rfl rfl rfl rfl (op_pick_false rfl rfl) ?_
                    refine TL_keepH [88] [] rfl rfl rfl rfl (by rw [hF]; rfl) ?_
                    exact TL_cast _ (by first | (rw [hq, Bool.false_and]; done) | (rw [hq]; rfl)) (hjj () trivial)
            · refine TL_split 71 rfl rfl rfl (fun hq => ?_) (fun hq => ?_)
              · refine TL_pass rfl rfl rfl rfl rfl rfl rfl ?_
                refine TL_pass rfl rfl rfl rfl rfl rfl rfl ?_
                refine TL_pure rfl rfl rfl rfl (op_pick_true rfl rfl) ?_
                refine TL_keepH [6, 11, 12, 13, 74] [1693] rfl rfl rfl rfl (by rw [hF]; rfl) ?_
                exact TL_cast _ (by first | (rw [hq, Bool.true_or]; done) | (rw [hq]; rfl)) (hjj () trivial)
              · refine TL_want rfl rfl ?_
                refine TL_pure rfl rfl rfl rfl (op_move rfl) ?_
                refine TL_want rfl rfl ?_
                refine TL_pure rfl rfl rfl rfl (op_not rfl) ?_
                refine TL_pure rfl rfl rfl rfl (op_pick_false rfl rfl) ?_
                refine TL_keepH [6, 11, 12, 13, 74] [1693] rfl rfl rfl rfl (by rw [hF]; rfl) ?_
                exact TL_cast _ (by first | (rw [hq, Bool.false_or]; done) | (rw [hq]; rfl)) (hjj () trivial)
      · refine T_drawZ [10] mix (by kernel_rfl) rfl ?_
        obtain ⟨r35, hr35, hm⟩ := bindS hm
        obtain ⟨r37, hr37, hm⟩ := bindS hm
        refine TZ_pure 0 (by kernel_rfl) rfl rfl rfl rfl rfl (op_fieldAddr fa42_1 rfl rfl) ?_
        refine TZ_pure 1 (by kernel_rfl) rfl rfl rfl rfl rfl (op_load_agg ag40 sz40 rfl rfl rfl) ?_
        refine TZ_pure 2 (by kernel_rfl) rfl rfl rfl rfl rfl (op_move rfl) ?_
        refine TZ_cut 6 [true, true, true, true, true, true, false, false, false, false, false, false] ⟨[(1, .sl 1 (List.map a_u8 p1)), (5, .ptr 11 0 0), (6, .sl 5 (List.map a_Node r20.2)), (7, .ow 92), (32, .ptr 11 0 1), (33, .agg [.int .i64 r20.1.Goal.Const, .sl 1 (List.map a_i64 r20.1.Goal.Coeffs)]), (34, .sl 1 (List.map a_u8 p1)), (35, .int .i64 r35), (36, .agg [.int .i64 r35, .snil]), (37, .tup [.agg [.int .i64 r37.1.Const, .ow 2174], .bool r37.2])], [(11, .box [.sl 2 (List.map a_Term r20.1.Facts), .int .i64 r20.1.Goal.Const, .sl 1 (List.map a_i64 r20.1.Goal.Coeffs)]), (92, .arr ⟨false, false⟩ 2 40 (List.map a_Term ((([] : List Term) ++ r20.1.Facts) ++ [r20.1.Goal]))), (2174, .arr ⟨false, true⟩ 1 2 (List.map a_i64 r37.1.Coeffs))]⟩ ?_ (fun hS1693_0 => ?_)
        · refine TZ_pure 6 (by kernel_rfl) rfl rfl rfl rfl rfl (op_move rfl) ?_
          refine TZ_pure 7 (by kernel_rfl) rfl rfl rfl rfl rfl (op_extract rfl rfl) ?_
          refine TZ_pure 8 (by kernel_rfl) rfl rfl rfl rfl rfl (op_extract rfl rfl) ?_
          refine TZ_one 9 (by kernel_rfl) rfl ?_
          refine TL_alloc 2494 z40 rfl rfl rfl rfl rfl rfl rfl ?_
          refine TL_nil ?_
          refine TZ_one 10 (by kernel_rfl) rfl ?_
          refine TL_store_box sz40 rfl rfl rfl rfl rfl rfl rfl rfl rfl ?_
          refine TL_nil ?_
          refine TZ_pure 11 (by kernel_rfl) rfl rfl rfl rfl rfl (op_assign rfl) ?_
          refine TZ_done (by kernel_rfl) ?_
          refine T_keepH [1, 5, 6, 7, 8, 9] [11, 92, 2174, 2494] rfl rfl rfl rfl (by rw [hF]; rfl) ?_
          refine T_ren [(11, 11), (92, 92), (2174, 1212), (2494, 1532)] rfl rfl rfl (by rw [hF]; rfl) ?_
          exact hj1 (r37.1.Const, r37.1.Coeffs, r37.2) hm
        refine TZ_cut 6 [true, true, true, true, true, false, false, false, false, true, false, false] ⟨[(1, .sl 1 (List.map a_u8 p1)), (5, .ptr 11 0 0), (6, .sl 5 (List.map a_Node r20.2)), (7, .ow 92), (8, .ptr 2494 0 0), (32, .ptr 11 0 1), (33, .agg [.int .i64 r20.1.Goal.Const, .sl 1 (List.map a_i64 r20.1.Goal.Coeffs)]), (34, .sl 1 (List.map a_u8 p1)), (35, .int .i64 r35), (36, .agg [.int .i64 r35, .snil])], [(11, .box [.sl 2 (List.map a_Term r20.1.Facts), .int .i64 r20.1.Goal.Const, .sl 1 (List.map a_i64 r20.1.Goal.Coeffs)]), (92, .arr ⟨false, false⟩ 2 40 (List.map a_Term ((([] : List Term) ++ r20.1.Facts) ++ [r20.1.Goal]))), (2494, .box [.int .i64 (0 : Int), .snil])]⟩ ?_ (fun hS1693_1 => ?_)
        · refine TZ_one 5 (by kernel_rfl) rfl ?_
          refine TL_callO [(1000, 2174)] (ACall.nil (ys := [.agg [.int .i64 r20.1.Goal.Const, .sl 1 (List.map a_i64 r20.1.Goal.Coeffs)], .agg [.int .i64 r35, .snil]]) (xs := [.agg [.int .i64 r20.1.Goal.Const, .sl 1 (List.map a_i64 r20.1.Goal.Coeffs)], .agg [.int .i64 r35, .sl 1 (List.map a_i64 ([] : List Int))]]) (c_impl_AddTerms r20.1.Goal (Term.mk r35 ([] : List Int)) r37 hr37) (⟨_, _, rfl, ⟨_, rfl, ⟨_, _, rfl, rfl, ⟨_, _, rfl, rfl, rfl⟩⟩⟩, ⟨_, _, rfl, ⟨_, rfl, ⟨_, _, rfl, rfl, ⟨_, _, rfl, .inr ⟨_, rfl⟩, rfl⟩⟩⟩, rfl⟩⟩)) Try.call34 rfl rfl rfl rfl rfl rfl rfl rfl rfl rfl rfl rfl rfl ?_
          refine TL_nil ?_
          refine TZ_pure 6 (by kernel_rfl) rfl rfl rfl rfl rfl (op_move rfl) ?_
          refine TZ_pure 7 (by kernel_rfl) rfl rfl rfl rfl rfl (op_extract rfl rfl) ?_
          refine TZ_pure 8 (by kernel_rfl) rfl rfl rfl rfl rfl (op_extract rfl rfl) ?_
          refine TZ_one 10 (by kernel_rfl) rfl ?_
          refine TL_store_box sz40 rfl rfl rfl rfl rfl rfl rfl rfl rfl ?_
          refine TL_nil ?_
          refine TZ_pure 11 (by kernel_rfl) rfl rfl rfl rfl rfl (op_assign rfl) ?_
          refine TZ_done (by kernel_rfl) ?_
          refine T_keepH [1, 5, 6, 7, 8, 9] [11, 92, 2174, 2494] rfl rfl rfl rfl (by rw [hF]; rfl) ?_
          refine T_ren [(11, 11), (92, 92), (2174, 1212), (2494, 1532)] rfl rfl rfl (by rw [hF]; rfl) ?_
          exact hj1 (r37.1.Const, r37.1.Coeffs, r37.2) hm
        refine TZ_cut 8 [true, true, true, true, false, false, false, false, false, false, false, false] ⟨[(1, .sl 1 (List.map a_u8 p1)), (5, .ptr 11 0 0), (6, .sl 5 (List.map a_Node r20.2)), (7, .ow 92), (32, .ptr 11 0 1), (33, .agg [.int .i64 r20.1.Goal.Const, .sl 1 (List.map a_i64 r20.1.Goal.Coeffs)]), (34, .sl 1 (List.map a_u8 p1)), (35, .int .i64 r35)], [(11, .box [.sl 2 (List.map a_Term r20.1.Facts), .int .i64 r20.1.Goal.Const, .sl 1 (List.map a_i64 r20.1.Goal.Coeffs)]), (92, .arr ⟨false, false⟩ 2 40 (List.map a_Term ((([] : List Term) ++ r20.1.Facts) ++ [r20.1.Goal])))]⟩ ?_ (fun hS1693_2 => ?_)
        · refine TZ_pure 4 (by kernel_rfl) rfl rfl rfl rfl rfl (op_buildP pl40 z40 rfl rfl rfl rfl rfl) ?_
          refine TZ_each [5, 9] (by kernel_rfl) rfl ?_
          refine ⟨?_, ?_⟩
          · refine ⟨_, rfl, ?_⟩
            refine TL_callO [(1000, 2174)] (ACall.nil (ys := [.agg [.int .i64 r20.1.Goal.Const, .sl 1 (List.map a_i64 r20.1.Goal.Coeffs)], .agg [.int .i64 r35, .snil]]) (xs := [.agg [.int .i64 r20.1.Goal.Const, .sl 1 (List.map a_i64 r20.1.Goal.Coeffs)], .agg [.int .i64 r35, .sl 1 (List.map a_i64 ([] : List Int))]]) (c_impl_AddTerms r20.1.Goal (Term.mk r35 ([] : List Int)) r37 hr37) (⟨_, _, rfl, ⟨_, rfl, ⟨_, _, rfl, rfl, ⟨_, _, rfl, rfl, rfl⟩⟩⟩, ⟨_, _, rfl, ⟨_, rfl, ⟨_, _, rfl, rfl, ⟨_, _, rfl, .inr ⟨_, rfl⟩, rfl⟩⟩⟩, rfl⟩⟩)) Try.call34 rfl rfl rfl rfl rfl rfl rfl rfl rfl rfl rfl rfl rfl ?_
            refine TL_nil ?_
            refine TZ_keepH [1, 5, 6, 7, 32, 33, 34, 35, 36, 37] [11, 92, 2174] rfl rfl rfl rfl (by rw [hF]; rfl) ?_
            exact hS1693_0
          · refine ⟨_, rfl, ?_⟩
            refine TL_alloc 2494 z40 rfl rfl rfl rfl rfl rfl rfl ?_
            refine TL_nil ?_
            refine TZ_keepH [1, 5, 6, 7, 8, 32, 33, 34, 35, 36] [11, 92, 2494] rfl rfl rfl rfl (by rw [hF]; rfl) ?_
            exact hS1693_1
        refine TZ_cut 8 [true, true, true, false, false, false, false, false, false, true, false, false] ⟨[(1, .sl 1 (List.map a_u8 p1)), (5, .ptr 11 0 0), (6, .sl 5 (List.map a_Node r20.2)), (7, .ow 92), (8, .ptr 2494 0 0), (32, .ptr 11 0 1), (33, .agg [.int .i64 r20.1.Goal.Const, .sl 1 (List.map a_i64 r20.1.Goal.Coeffs)]), (34, .sl 1 (List.map a_u8 p1))], [(11, .box [.sl 2 (List.map a_Term r20.1.Facts), .int .i64 r20.1.Goal.Const, .sl 1 (List.map a_i64 r20.1.Goal.Coeffs)]), (92, .arr ⟨false, false⟩ 2 40 (List.map a_Term ((([] : List Term) ++ r20.1.Facts) ++ [r20.1.Goal]))), (2494, .box [.int .i64 (0 : Int), .snil])]⟩ ?_ (fun hS1693_3 => ?_)
        · refine TZ_one 3 (by kernel_rfl) rfl ?_
          refine TL_callF (c_laws_r8At p1 (0 : Int) (9 : Int) r35 hr35) Try.call33 rfl rfl rfl rfl rfl ?_
          refine TL_nil ?_
          refine TZ_pure 4 (by kernel_rfl) rfl rfl rfl rfl rfl (op_buildP pl40 z40 rfl rfl rfl rfl rfl) ?_
          refine TZ_one 5 (by kernel_rfl) rfl ?_
          refine TL_callO [(1000, 2174)] (ACall.nil (ys := [.agg [.int .i64 r20.1.Goal.Const, .sl 1 (List.map a_i64 r20.1.Goal.Coeffs)], .agg [.int .i64 r35, .snil]]) (xs := [.agg [.int .i64 r20.1.Goal.Const, .sl 1 (List.map a_i64 r20.1.Goal.Coeffs)], .agg [.int .i64 r35, .sl 1 (List.map a_i64 ([] : List Int))]]) (c_impl_AddTerms r20.1.Goal (Term.mk r35 ([] : List Int)) r37 hr37) (⟨_, _, rfl, ⟨_, rfl, ⟨_, _, rfl, rfl, ⟨_, _, rfl, rfl, rfl⟩⟩⟩, ⟨_, _, rfl, ⟨_, rfl, ⟨_, _, rfl, rfl, ⟨_, _, rfl, .inr ⟨_, rfl⟩, rfl⟩⟩⟩, rfl⟩⟩)) Try.call34 rfl rfl rfl rfl rfl rfl rfl rfl rfl rfl rfl rfl rfl ?_
          refine TL_nil ?_
          refine TZ_pure 6 (by kernel_rfl) rfl rfl rfl rfl rfl (op_move rfl) ?_
          refine TZ_pure 7 (by kernel_rfl) rfl rfl rfl rfl rfl (op_extract rfl rfl) ?_
          refine TZ_pure 8 (by kernel_rfl) rfl rfl rfl rfl rfl (op_extract rfl rfl) ?_
          refine TZ_one 10 (by kernel_rfl) rfl ?_
          refine TL_store_box sz40 rfl rfl rfl rfl rfl rfl rfl rfl rfl ?_
          refine TL_nil ?_
          refine TZ_pure 11 (by kernel_rfl) rfl rfl rfl rfl rfl (op_assign rfl) ?_
          refine TZ_done (by kernel_rfl) ?_
          refine T_keepH [1, 5, 6, 7, 8, 9] [11, 92, 2174, 2494] rfl rfl rfl rfl (by rw [hF]; rfl) ?_
          refine T_ren [(11, 11), (92, 92), (2174, 1212), (2494, 1532)] rfl rfl rfl (by rw [hF]; rfl) ?_
          exact hj1 (r37.1.Const, r37.1.Coeffs, r37.2) hm
        refine TZ_each [3, 9] (by kernel_rfl) rfl ?_
        refine ⟨?_, ?_⟩
        · refine ⟨_, rfl, ?_⟩
          refine TL_callF (c_laws_r8At p1 (0 : Int) (9 : Int) r35 hr35) Try.call33 rfl rfl rfl rfl rfl ?_
          refine TL_nil ?_
          refine TZ_keepH [1, 5, 6, 7, 32, 33, 34, 35] [11, 92] rfl rfl rfl rfl (by rw [hF]; rfl) ?_
          exact hS1693_2
        · refine ⟨_, rfl, ?_⟩
          refine TL_alloc 2494 z40 rfl rfl rfl rfl rfl rfl rfl ?_
          refine TL_nil ?_
          refine TZ_keepH [1, 5, 6, 7, 8, 32, 33, 34] [11, 92, 2494] rfl rfl rfl rfl (by rw [hF]; rfl) ?_
          exact hS1693_3
    · refine T_drawZ [0, 3, 6, 7] mix (by kernel_rfl) rfl ?_
      obtain ⟨q26, hq26, hm⟩ := bindS hm
      obtain ⟨q30, hq30, hm⟩ := bindS hm
      refine TZ_pure 1 (by kernel_rfl) rfl rfl rfl rfl rfl (op_fieldAddr fa42_0 rfl rfl) ?_
      refine TZ_pure 4 (by kernel_rfl) rfl rfl rfl rfl rfl (op_fieldAddr fa42_1 rfl rfl) ?_
      refine TZ_cut 4 [true, true, true, true, true, false, false, false, false] ⟨[(0, .sl 1 (List.map a_u8 p0)), (1, .sl 1 (List.map a_u8 p1)), (4, .bool false), (5, .ptr 11 0 0), (6, .sl 5 (List.map a_Node r20.2)), (15, .sl 1 (List.map a_u8 p0)), (16, .sl 1 (List.map a_u8 p1)), (17, .bool r17), (18, .tup [.agg [.sl 2 (List.map a_Term r20.1.Facts), .int .i64 r20.1.Goal.Const, .sl 1 (List.map a_i64 r20.1.Goal.Coeffs)], .sl 5 (List.map a_Node r20.2)]), (19, .sl 1 (List.map a_u8 p0)), (20, .tup [.agg [.sl 2 (List.map a_Term r20.1.Facts), .int .i64 r20.1.Goal.Const, .sl 1 (List.map a_i64 r20.1.Goal.Coeffs)], .sl 5 (List.map a_Node r20.2)]), (21, .agg [.sl 2 (List.map a_Term r20.1.Facts), .int .i64 r20.1.Goal.Const, .sl 1 (List.map a_i64 r20.1.Goal.Coeffs)]), (22, .sl 5 (List.map a_Node r20.2)), (23, .junk), (24, .ptr 11 0 0), (25, .sl 2 (List.map a_Term r20.1.Facts)), (26, .ow 2734), (27, .ptr 11 0 1)], [(11, .box [.sl 2 (List.map a_Term r20.1.Facts), .int .i64 r20.1.Goal.Const, .sl 1 (List.map a_i64 r20.1.Goal.Coeffs)]), (2734, .arr ⟨false, false⟩ 2 40 (List.map a_Term (([] : List Term) ++ r20.1.Facts)))]⟩ ?_ (fun hS2653_0 => ?_)
      · refine TZ_one 5 (by kernel_rfl) rfl ?_
        refine TL_pure rfl rfl rfl rfl (op_load_agg ag40 sz40 rfl rfl rfl) ?_
        refine TL_nil ?_
        refine TZ_one 6 (by kernel_rfl) rfl ?_
        refine TL_buildSlice 3214 (es := List.map a_Term [r20.1.Goal]) el39 z40 rfl rfl rfl rfl rfl rfl rfl rfl rfl ?_
        refine TL_nil ?_
        refine TZ_one 7 (by kernel_rfl) rfl ?_
        refine TL_appendT (f := a_Term) (a := (([] : List Term) ++ r20.1.Facts)) (b := [r20.1.Goal]) el39 z40 rfl rfl rfl rfl rfl rfl rfl (capI_spec hq30) rfl rfl rfl rfl rfl ?_
        refine TL_nil ?_
        refine TZ_pure 8 (by kernel_rfl) rfl rfl rfl rfl rfl (op_assign rfl) ?_
        refine TZ_done (by kernel_rfl) ?_
        refine T_keepH [1, 5, 6, 7] [11, 2734] rfl rfl rfl rfl (by rw [hF]; rfl) ?_
        refine T_ren [(11, 11), (2734, 92)] rfl rfl rfl (by rw [hF]; rfl) ?_
        exact hj0 () hm
      refine TZ_cut 3 [true, true, true, true, true, true, false, false, false] ⟨[(0, .sl 1 (List.map a_u8 p0)), (1, .sl 1 (List.map a_u8 p1)), (4, .bool false), (5, .ptr 11 0 0), (6, .sl 5 (List.map a_Node r20.2)), (15, .sl 1 (List.map a_u8 p0)), (16, .sl 1 (List.map a_u8 p1)), (17, .bool r17), (18, .tup [.agg [.sl 2 (List.map a_Term r20.1.Facts), .int .i64 r20.1.Goal.Const, .sl 1 (List.map a_i64 r20.1.Goal.Coeffs)], .sl 5 (List.map a_Node r20.2)]), (19, .sl 1 (List.map a_u8 p0)), (20, .tup [.agg [.sl 2 (List.map a_Term r20.1.Facts), .int .i64 r20.1.Goal.Const, .sl 1 (List.map a_i64 r20.1.Goal.Coeffs)], .sl 5 (List.map a_Node r20.2)]), (21, .agg [.sl 2 (List.map a_Term r20.1.Facts), .int .i64 r20.1.Goal.Const, .sl 1 (List.map a_i64 r20.1.Goal.Coeffs)]), (22, .sl 5 (List.map a_Node r20.2)), (23, .junk), (24, .ptr 11 0 0), (25, .sl 2 (List.map a_Term r20.1.Facts)), (26, .ow 2734), (27, .ptr 11 0 1), (28, .agg [.int .i64 r20.1.Goal.Const, .sl 1 (List.map a_i64 r20.1.Goal.Coeffs)])], [(11, .box [.sl 2 (List.map a_Term r20.1.Facts), .int .i64 r20.1.Goal.Const, .sl 1 (List.map a_i64 r20.1.Goal.Coeffs)]), (2734, .arr ⟨false, false⟩ 2 40 (List.map a_Term (([] : List Term) ++ r20.1.Facts)))]⟩ ?_ (fun hS2653_1 => ?_)
      · refine TZ_one 6 (by kernel_rfl) rfl ?_
        refine TL_buildSlice 3214 (es := List.map a_Term [r20.1.Goal]) el39 z40 rfl rfl rfl rfl rfl rfl rfl rfl rfl ?_
        refine TL_nil ?_
        refine TZ_one 7 (by kernel_rfl) rfl ?_
        refine TL_appendT (f := a_Term) (a := (([] : List Term) ++ r20.1.Facts)) (b := [r20.1.Goal]) el39 z40 rfl rfl rfl rfl rfl rfl rfl (capI_spec hq30) rfl rfl rfl rfl rfl ?_
        refine TL_nil ?_
        refine TZ_pure 8 (by kernel_rfl) rfl rfl rfl rfl rfl (op_assign rfl) ?_
        refine TZ_done (by kernel_rfl) ?_
        refine T_keepH [1, 5, 6, 7] [11, 2734] rfl rfl rfl rfl (by rw [hF]; rfl) ?_
        refine T_ren [(11, 11), (2734, 92)] rfl rfl rfl (by rw [hF]; rfl) ?_
        exact hj0 () hm
      refine TZ_cut 3 [true, true, true, false, true, true, true, false, false] ⟨[(0, .sl 1 (List.map a_u8 p0)), (1, .sl 1 (List.map a_u8 p1)), (4, .bool false), (5, .ptr 11 0 0), (6, .sl 5 (List.map a_Node r20.2)), (15, .sl 1 (List.map a_u8 p0)), (16, .sl 1 (List.map a_u8 p1)), (17, .bool r17), (18, .tup [.agg [.sl 2 (List.map a_Term r20.1.Facts), .int .i64 r20.1.Goal.Const, .sl 1 (List.map a_i64 r20.1.Goal.Coeffs)], .sl 5 (List.map a_Node r20.2)]), (19, .sl 1 (List.map a_u8 p0)), (20, .tup [.agg [.sl 2 (List.map a_Term r20.1.Facts), .int .i64 r20.1.Goal.Const, .sl 1 (List.map a_i64 r20.1.Goal.Coeffs)], .sl 5 (List.map a_Node r20.2)]), (21, .agg [.sl 2 (List.map a_Term r20.1.Facts), .int .i64 r20.1.Goal.Const, .sl 1 (List.map a_i64 r20.1.Goal.Coeffs)]), (22, .sl 5 (List.map a_Node r20.2)), (23, .ow 2734), (24, .ptr 11 0 0), (25, .sl 2 (List.map a_Term r20.1.Facts)), (27, .ptr 11 0 1), (28, .agg [.int .i64 r20.1.Goal.Const, .sl 1 (List.map a_i64 r20.1.Goal.Coeffs)]), (29, .ow 3214)], [(11, .box [.sl 2 (List.map a_Term r20.1.Facts), .int .i64 r20.1.Goal.Const, .sl 1 (List.map a_i64 r20.1.Goal.Coeffs)]), (2734, .arr ⟨false, false⟩ 2 40 (List.map a_Term ([] : List Term))), (3214, .arr ⟨false, false⟩ 2 40 (List.map a_Term [r20.1.Goal]))]⟩ ?_ (fun hS2653_2 => ?_)
      · refine TZ_one 3 (by kernel_rfl) rfl ?_
        refine TL_appendT (f := a_Term) (a := ([] : List Term)) (b := r20.1.Facts) el39 z40 rfl rfl rfl rfl rfl rfl rfl (capI_spec hq26) rfl rfl rfl rfl rfl ?_
        refine TL_nil ?_
        refine TZ_one 7 (by kernel_rfl) rfl ?_
        refine TL_appendT (f := a_Term) (a := (([] : List Term) ++ r20.1.Facts)) (b := [r20.1.Goal]) el39 z40 rfl rfl rfl rfl rfl rfl rfl (capI_spec hq30) rfl rfl rfl rfl rfl ?_
        refine TL_nil ?_
        refine TZ_pure 8 (by kernel_rfl) rfl rfl rfl rfl rfl (op_assign rfl) ?_
        refine TZ_done (by kernel_rfl) ?_
        refine T_keepH [1, 5, 6, 7] [11, 2734] rfl rfl rfl rfl (by rw [hF]; rfl) ?_
        refine T_ren [(11, 11), (2734, 92)] rfl rfl rfl (by rw [hF]; rfl) ?_
        exact hj0 () hm
      refine TZ_cut 4 [true, true, true, false, true, true, false, false, false] ⟨[(0, .sl 1 (List.map a_u8 p0)), (1, .sl 1 (List.map a_u8 p1)), (4, .bool false), (5, .ptr 11 0 0), (6, .sl 5 (List.map a_Node r20.2)), (15, .sl 1 (List.map a_u8 p0)), (16, .sl 1 (List.map a_u8 p1)), (17, .bool r17), (18, .tup [.agg [.sl 2 (List.map a_Term r20.1.Facts), .int .i64 r20.1.Goal.Const, .sl 1 (List.map a_i64 r20.1.Goal.Coeffs)], .sl 5 (List.map a_Node r20.2)]), (19, .sl 1 (List.map a_u8 p0)), (20, .tup [.agg [.sl 2 (List.map a_Term r20.1.Facts), .int .i64 r20.1.Goal.Const, .sl 1 (List.map a_i64 r20.1.Goal.Coeffs)], .sl 5 (List.map a_Node r20.2)]), (21, .agg [.sl 2 (List.map a_Term r20.1.Facts), .int .i64 r20.1.Goal.Const, .sl 1 (List.map a_i64 r20.1.Goal.Coeffs)]), (22, .sl 5 (List.map a_Node r20.2)), (23, .ow 2734), (24, .ptr 11 0 0), (25, .sl 2 (List.map a_Term r20.1.Facts)), (27, .ptr 11 0 1), (28, .agg [.int .i64 r20.1.Goal.Const, .sl 1 (List.map a_i64 r20.1.Goal.Coeffs)])], [(11, .box [.sl 2 (List.map a_Term r20.1.Facts), .int .i64 r20.1.Goal.Const, .sl 1 (List.map a_i64 r20.1.Goal.Coeffs)]), (2734, .arr ⟨false, false⟩ 2 40 (List.map a_Term ([] : List Term)))]⟩ ?_ (fun hS2653_3 => ?_)
      · refine TZ_each [3, 6] (by kernel_rfl) rfl ?_
        refine ⟨?_, ?_⟩
        · refine ⟨_, rfl, ?_⟩
          refine TL_appendT (f := a_Term) (a := ([] : List Term)) (b := r20.1.Facts) el39 z40 rfl rfl rfl rfl rfl rfl rfl (capI_spec hq26) rfl rfl rfl rfl rfl ?_
          refine TL_nil ?_
          refine TZ_keepH [0, 1, 4, 5, 6, 15, 16, 17, 18, 19, 20, 21, 22, 23, 24, 25, 26, 27, 28] [11, 2734] rfl rfl rfl rfl (by rw [hF]; rfl) ?_
          exact hS2653_1
        · refine ⟨_, rfl, ?_⟩
          refine TL_buildSlice 3214 (es := List.map a_Term [r20.1.Goal]) el39 z40 rfl rfl rfl rfl rfl rfl rfl rfl rfl ?_
          refine TL_nil ?_
          refine TZ_keepH [0, 1, 4, 5, 6, 15, 16, 17, 18, 19, 20, 21, 22, 23, 24, 25, 27, 28, 29] [11, 2734, 3214] rfl rfl rfl rfl (by rw [hF]; rfl) ?_
          exact hS2653_2
      refine TZ_cut 5 [true, true, true, false, true, false, false, false, false] ⟨[(0, .sl 1 (List.map a_u8 p0)), (1, .sl 1 (List.map a_u8 p1)), (4, .bool false), (5, .ptr 11 0 0), (6, .sl 5 (List.map a_Node r20.2)), (15, .sl 1 (List.map a_u8 p0)), (16, .sl 1 (List.map a_u8 p1)), (17, .bool r17), (18, .tup [.agg [.sl 2 (List.map a_Term r20.1.Facts), .int .i64 r20.1.Goal.Const, .sl 1 (List.map a_i64 r20.1.Goal.Coeffs)], .sl 5 (List.map a_Node r20.2)]), (19, .sl 1 (List.map a_u8 p0)), (20, .tup [.agg [.sl 2 (List.map a_Term r20.1.Facts), .int .i64 r20.1.Goal.Const, .sl 1 (List.map a_i64 r20.1.Goal.Coeffs)], .sl 5 (List.map a_Node r20.2)]), (21, .agg [.sl 2 (List.map a_Term r20.1.Facts), .int .i64 r20.1.Goal.Const, .sl 1 (List.map a_i64 r20.1.Goal.Coeffs)]), (22, .sl 5 (List.map a_Node r20.2)), (23, .ow 2734), (24, .ptr 11 0 0), (25, .sl 2 (List.map a_Term r20.1.Facts)), (27, .ptr 11 0 1)], [(11, .box [.sl 2 (List.map a_Term r20.1.Facts), .int .i64 r20.1.Goal.Const, .sl 1 (List.map a_i64 r20.1.Goal.Coeffs)]), (2734, .arr ⟨false, false⟩ 2 40 (List.map a_Term ([] : List Term)))]⟩ ?_ (fun hS2653_4 => ?_)
      · refine TZ_each [3, 5] (by kernel_rfl) rfl ?_
        refine ⟨?_, ?_⟩
        · refine ⟨_, rfl, ?_⟩
          refine TL_appendT (f := a_Term) (a := ([] : List Term)) (b := r20.1.Facts) el39 z40 rfl rfl rfl rfl rfl rfl rfl (capI_spec hq26) rfl rfl rfl rfl rfl ?_
          refine TL_nil ?_
          refine TZ_keepH [0, 1, 4, 5, 6, 15, 16, 17, 18, 19, 20, 21, 22, 23, 24, 25, 26, 27] [11, 2734] rfl rfl rfl rfl (by rw [hF]; rfl) ?_
          exact hS2653_0
        · refine ⟨_, rfl, ?_⟩
          refine TL_pure rfl rfl rfl rfl (op_load_agg ag40 sz40 rfl rfl rfl) ?_
          refine TL_nil ?_
          refine TZ_keepH [0, 1, 4, 5, 6, 15, 16, 17, 18, 19, 20, 21, 22, 23, 24, 25, 27, 28] [11, 2734] rfl rfl rfl rfl (by rw [hF]; rfl) ?_
          exact hS2653_3
      refine TZ_cut 4 [true, true, false, false, true, true, true, false, false] ⟨[(0, .sl 1 (List.map a_u8 p0)), (1, .sl 1 (List.map a_u8 p1)), (4, .bool false), (5, .ptr 11 0 0), (6, .sl 5 (List.map a_Node r20.2)), (15, .sl 1 (List.map a_u8 p0)), (16, .sl 1 (List.map a_u8 p1)), (17, .bool r17), (18, .tup [.agg [.sl 2 (List.map a_Term r20.1.Facts), .int .i64 r20.1.Goal.Const, .sl 1 (List.map a_i64 r20.1.Goal.Coeffs)], .sl 5 (List.map a_Node r20.2)]), (19, .sl 1 (List.map a_u8 p0)), (20, .tup [.agg [.sl 2 (List.map a_Term r20.1.Facts), .int .i64 r20.1.Goal.Const, .sl 1 (List.map a_i64 r20.1.Goal.Coeffs)], .sl 5 (List.map a_Node r20.2)]), (21, .agg [.sl 2 (List.map a_Term r20.1.Facts), .int .i64 r20.1.Goal.Const, .sl 1 (List.map a_i64 r20.1.Goal.Coeffs)]), (22, .sl 5 (List.map a_Node r20.2)), (23, .ow 2734), (24, .ptr 11 0 0), (27, .ptr 11 0 1), (28, .agg [.int .i64 r20.1.Goal.Const, .sl 1 (List.map a_i64 r20.1.Goal.Coeffs)]), (29, .ow 3214)], [(11, .box [.sl 2 (List.map a_Term r20.1.Facts), .int .i64 r20.1.Goal.Const, .sl 1 (List.map a_i64 r20.1.Goal.Coeffs)]), (2734, .arr ⟨false, false⟩ 2 40 (List.map a_Term ([] : List Term))), (3214, .arr ⟨false, false⟩ 2 40 (List.map a_Term [r20.1.Goal]))]⟩ ?_ (fun hS2653_5 => ?_)
      · refine TZ_one 2 (by kernel_rfl) rfl ?_
        refine TL_pure rfl rfl rfl rfl (op_load_one ag39 rfl rfl) ?_
        refine TL_nil ?_
        refine TZ_one 3 (by kernel_rfl) rfl ?_
        refine TL_appendT (f := a_Term) (a := ([] : List Term)) (b := r20.1.Facts) el39 z40 rfl rfl rfl rfl rfl rfl rfl (capI_spec hq26) rfl rfl rfl rfl rfl ?_
        refine TL_nil ?_
        refine TZ_one 7 (by kernel_rfl) rfl ?_
        refine TL_appendT (f := a_Term) (a := (([] : List Term) ++ r20.1.Facts)) (b := [r20.1.Goal]) el39 z40 rfl rfl rfl rfl rfl rfl rfl (capI_spec hq30) rfl rfl rfl rfl rfl ?_
        refine TL_nil ?_
        refine TZ_pure 8 (by kernel_rfl) rfl rfl rfl rfl rfl (op_assign rfl) ?_
        refine TZ_done (by kernel_rfl) ?_
        refine T_keepH [1, 5, 6, 7] [11, 2734] rfl rfl rfl rfl (by rw [hF]; rfl) ?_
        refine T_ren [(11, 11), (2734, 92)] rfl rfl rfl (by rw [hF]; rfl) ?_
        exact hj0 () hm
      refine TZ_cut 5 [true, true, false, false, true, true, false, false, false] ⟨[(0, .sl 1 (List.map a_u8 p0)), (1, .sl 1 (List.map a_u8 p1)), (4, .bool false), (5, .ptr 11 0 0), (6, .sl 5 (List.map a_Node r20.2)), (15, .sl 1 (List.map a_u8 p0)), (16, .sl 1 (List.map a_u8 p1)), (17, .bool r17), (18, .tup [.agg [.sl 2 (List.map a_Term r20.1.Facts), .int .i64 r20.1.Goal.Const, .sl 1 (List.map a_i64 r20.1.Goal.Coeffs)], .sl 5 (List.map a_Node r20.2)]), (19, .sl 1 (List.map a_u8 p0)), (20, .tup [.agg [.sl 2 (List.map a_Term r20.1.Facts), .int .i64 r20.1.Goal.Const, .sl 1 (List.map a_i64 r20.1.Goal.Coeffs)], .sl 5 (List.map a_Node r20.2)]), (21, .agg [.sl 2 (List.map a_Term r20.1.Facts), .int .i64 r20.1.Goal.Const, .sl 1 (List.map a_i64 r20.1.Goal.Coeffs)]), (22, .sl 5 (List.map a_Node r20.2)), (23, .ow 2734), (24, .ptr 11 0 0), (27, .ptr 11 0 1), (28, .agg [.int .i64 r20.1.Goal.Const, .sl 1 (List.map a_i64 r20.1.Goal.Coeffs)])], [(11, .box [.sl 2 (List.map a_Term r20.1.Facts), .int .i64 r20.1.Goal.Const, .sl 1 (List.map a_i64 r20.1.Goal.Coeffs)]), (2734, .arr ⟨false, false⟩ 2 40 (List.map a_Term ([] : List Term)))]⟩ ?_ (fun hS2653_6 => ?_)
      · refine TZ_each [2, 6] (by kernel_rfl) rfl ?_
        refine ⟨?_, ?_⟩
        · refine ⟨_, rfl, ?_⟩
          refine TL_pure rfl rfl rfl rfl (op_load_one ag39 rfl rfl) ?_
          refine TL_nil ?_
          refine TZ_keepH [0, 1, 4, 5, 6, 15, 16, 17, 18, 19, 20, 21, 22, 23, 24, 25, 27, 28] [11, 2734] rfl rfl rfl rfl (by rw [hF]; rfl) ?_
          exact hS2653_3
        · refine ⟨_, rfl, ?_⟩
          refine TL_buildSlice 3214 (es := List.map a_Term [r20.1.Goal]) el39 z40 rfl rfl rfl rfl rfl rfl rfl rfl rfl ?_
          refine TL_nil ?_
          refine TZ_keepH [0, 1, 4, 5, 6, 15, 16, 17, 18, 19, 20, 21, 22, 23, 24, 27, 28, 29] [11, 2734, 3214] rfl rfl rfl rfl (by rw [hF]; rfl) ?_
          exact hS2653_5
      refine TZ_cut 6 [true, true, false, false, true, false, false, false, false] ⟨[(0, .sl 1 (List.map a_u8 p0)), (1, .sl 1 (List.map a_u8 p1)), (4, .bool false), (5, .ptr 11 0 0), (6, .sl 5 (List.map a_Node r20.2)), (15, .sl 1 (List.map a_u8 p0)), (16, .sl 1 (List.map a_u8 p1)), (17, .bool r17), (18, .tup [.agg [.sl 2 (List.map a_Term r20.1.Facts), .int .i64 r20.1.Goal.Const, .sl 1 (List.map a_i64 r20.1.Goal.Coeffs)], .sl 5 (List.map a_Node r20.2)]), (19, .sl 1 (List.map a_u8 p0)), (20, .tup [.agg [.sl 2 (List.map a_Term r20.1.Facts), .int .i64 r20.1.Goal.Const, .sl 1 (List.map a_i64 r20.1.Goal.Coeffs)], .sl 5 (List.map a_Node r20.2)]), (21, .agg [.sl 2 (List.map a_Term r20.1.Facts), .int .i64 r20.1.Goal.Const, .sl 1 (List.map a_i64 r20.1.Goal.Coeffs)]), (22, .sl 5 (List.map a_Node r20.2)), (23, .ow 2734), (24, .ptr 11 0 0), (27, .ptr 11 0 1)], [(11, .box [.sl 2 (List.map a_Term r20.1.Facts), .int .i64 r20.1.Goal.Const, .sl 1 (List.map a_i64 r20.1.Goal.Coeffs)]), (2734, .arr ⟨false, false⟩ 2 40 (List.map a_Term ([] : List Term)))]⟩ ?_ (fun hS2653_7 => ?_)
      · refine TZ_each [2, 5] (by kernel_rfl) rfl ?_
        refine ⟨?_, ?_⟩
        · refine ⟨_, rfl, ?_⟩
          refine TL_pure rfl rfl rfl rfl (op_load_one ag39 rfl rfl) ?_
          refine TL_nil ?_
          refine TZ_keepH [0, 1, 4, 5, 6, 15, 16, 17, 18, 19, 20, 21, 22, 23, 24, 25, 27] [11, 2734] rfl rfl rfl rfl (by rw [hF]; rfl) ?_
          exact hS2653_4
        · refine ⟨_, rfl, ?_⟩
          refine TL_pure rfl rfl rfl rfl (op_load_agg ag40 sz40 rfl rfl rfl) ?_
          refine TL_nil ?_
          refine TZ_keepH [0, 1, 4, 5, 6, 15, 16, 17, 18, 19, 20, 21, 22, 23, 24, 27, 28] [11, 2734] rfl rfl rfl rfl (by rw [hF]; rfl) ?_
          exact hS2653_6
      refine TZ_cut 4 [false, true, true, false, true, true, true, false, false] ⟨[(0, .sl 1 (List.map a_u8 p0)), (1, .sl 1 (List.map a_u8 p1)), (4, .bool false), (5, .ptr 11 0 0), (6, .sl 5 (List.map a_Node r20.2)), (15, .sl 1 (List.map a_u8 p0)), (16, .sl 1 (List.map a_u8 p1)), (17, .bool r17), (18, .tup [.agg [.sl 2 (List.map a_Term r20.1.Facts), .int .i64 r20.1.Goal.Const, .sl 1 (List.map a_i64 r20.1.Goal.Coeffs)], .sl 5 (List.map a_Node r20.2)]), (19, .sl 1 (List.map a_u8 p0)), (20, .tup [.agg [.sl 2 (List.map a_Term r20.1.Facts), .int .i64 r20.1.Goal.Const, .sl 1 (List.map a_i64 r20.1.Goal.Coeffs)], .sl 5 (List.map a_Node r20.2)]), (21, .agg [.sl 2 (List.map a_Term r20.1.Facts), .int .i64 r20.1.Goal.Const, .sl 1 (List.map a_i64 r20.1.Goal.Coeffs)]), (22, .sl 5 (List.map a_Node r20.2)), (24, .ptr 11 0 0), (25, .sl 2 (List.map a_Term r20.1.Facts)), (27, .ptr 11 0 1), (28, .agg [.int .i64 r20.1.Goal.Const, .sl 1 (List.map a_i64 r20.1.Goal.Coeffs)]), (29, .ow 3214)], [(11, .box [.sl 2 (List.map a_Term r20.1.Facts), .int .i64 r20.1.Goal.Const, .sl 1 (List.map a_i64 r20.1.Goal.Coeffs)]), (3214, .arr ⟨false, false⟩ 2 40 (List.map a_Term [r20.1.Goal]))]⟩ ?_ (fun hS2653_8 => ?_)
      · refine TZ_one 0 (by kernel_rfl) rfl ?_
        refine TL_buildSlice 2734 (es := List.map a_Term ([] : List Term)) el39 z40 rfl rfl rfl rfl rfl rfl rfl rfl rfl ?_
        refine TL_nil ?_
        refine TZ_one 3 (by kernel_rfl) rfl ?_
        refine TL_appendT (f := a_Term) (a := ([] : List Term)) (b := r20.1.Facts) el39 z40 rfl rfl rfl rfl rfl rfl rfl (capI_spec hq26) rfl rfl rfl rfl rfl ?_
        refine TL_nil ?_
        refine TZ_one 7 (by kernel_rfl) rfl ?_
        refine TL_appendT (f := a_Term) (a := (([] : List Term) ++ r20.1.Facts)) (b := [r20.1.Goal]) el39 z40 rfl rfl rfl rfl rfl rfl rfl (capI_spec hq30) rfl rfl rfl rfl rfl ?_
        refine TL_nil ?_
        refine TZ_pure 8 (by kernel_rfl) rfl rfl rfl rfl rfl (op_assign rfl) ?_
        refine TZ_done (by kernel_rfl) ?_
        refine T_keepH [1, 5, 6, 7] [11, 2734] rfl rfl rfl rfl (by rw [hF]; rfl) ?_
        refine T_ren [(11, 11), (2734, 92)] rfl rfl rfl (by rw [hF]; rfl) ?_
        exact hj0 () hm
      refine TZ_cut 5 [false, true, true, false, true, true, false, false, false] ⟨[(0, .sl 1 (List.map a_u8 p0)), (1, .sl 1 (List.map a_u8 p1)), (4, .bool false), (5, .ptr 11 0 0), (6, .sl 5 (List.map a_Node r20.2)), (15, .sl 1 (List.map a_u8 p0)), (16, .sl 1 (List.map a_u8 p1)), (17, .bool r17), (18, .tup [.agg [.sl 2 (List.map a_Term r20.1.Facts), .int .i64 r20.1.Goal.Const, .sl 1 (List.map a_i64 r20.1.Goal.Coeffs)], .sl 5 (List.map a_Node r20.2)]), (19, .sl 1 (List.map a_u8 p0)), (20, .tup [.agg [.sl 2 (List.map a_Term r20.1.Facts), .int .i64 r20.1.Goal.Const, .sl 1 (List.map a_i64 r20.1.Goal.Coeffs)], .sl 5 (List.map a_Node r20.2)]), (21, .agg [.sl 2 (List.map a_Term r20.1.Facts), .int .i64 r20.1.Goal.Const, .sl 1 (List.map a_i64 r20.1.Goal.Coeffs)]), (22, .sl 5 (List.map a_Node r20.2)), (24, .ptr 11 0 0), (25, .sl 2 (List.map a_Term r20.1.Facts)), (27, .ptr 11 0 1), (28, .agg [.int .i64 r20.1.Goal.Const, .sl 1 (List.map a_i64 r20.1.Goal.Coeffs)])], [(11, .box [.sl 2 (List.map a_Term r20.1.Facts), .int .i64 r20.1.Goal.Const, .sl 1 (List.map a_i64 r20.1.Goal.Coeffs)])]⟩ ?_ (fun hS2653_9 => ?_)
      · refine TZ_each [0, 6] (by kernel_rfl) rfl ?_
        refine ⟨?_, ?_⟩
        · refine ⟨_, rfl, ?_⟩
          refine TL_buildSlice 2734 (es := List.map a_Term ([] : List Term)) el39 z40 rfl rfl rfl rfl rfl rfl rfl rfl rfl ?_
          refine TL_nil ?_
          refine TZ_keepH [0, 1, 4, 5, 6, 15, 16, 17, 18, 19, 20, 21, 22, 23, 24, 25, 27, 28] [11, 2734] rfl rfl rfl rfl (by rw [hF]; rfl) ?_
          exact hS2653_3
        · refine ⟨_, rfl, ?_⟩
          refine TL_buildSlice 3214 (es := List.map a_Term [r20.1.Goal]) el39 z40 rfl rfl rfl rfl rfl rfl rfl rfl rfl ?_
          refine TL_nil ?_
          refine TZ_keepH [0, 1, 4, 5, 6, 15, 16, 17, 18, 19, 20, 21, 22, 24, 25, 27, 28, 29] [11, 3214] rfl rfl rfl rfl (by rw [hF]; rfl) ?_
          exact hS2653_8
      refine TZ_cut 6 [false, true, true, false, true, false, false, false, false] ⟨[(0, .sl 1 (List.map a_u8 p0)), (1, .sl 1 (List.map a_u8 p1)), (4, .bool false), (5, .ptr 11 0 0), (6, .sl 5 (List.map a_Node r20.2)), (15, .sl 1 (List.map a_u8 p0)), (16, .sl 1 (List.map a_u8 p1)), (17, .bool r17), (18, .tup [.agg [.sl 2 (List.map a_Term r20.1.Facts), .int .i64 r20.1.Goal.Const, .sl 1 (List.map a_i64 r20.1.Goal.Coeffs)], .sl 5 (List.map a_Node r20.2)]), (19, .sl 1 (List.map a_u8 p0)), (20, .tup [.agg [.sl 2 (List.map a_Term r20.1.Facts), .int .i64 r20.1.Goal.Const, .sl 1 (List.map a_i64 r20.1.Goal.Coeffs)], .sl 5 (List.map a_Node r20.2)]), (21, .agg [.sl 2 (List.map a_Term r20.1.Facts), .int .i64 r20.1.Goal.Const, .sl 1 (List.map a_i64 r20.1.Goal.Coeffs)]), (22, .sl 5 (List.map a_Node r20.2)), (24, .ptr 11 0 0), (25, .sl 2 (List.map a_Term r20.1.Facts)), (27, .ptr 11 0 1)], [(11, .box [.sl 2 (List.map a_Term r20.1.Facts), .int .i64 r20.1.Goal.Const, .sl 1 (List.map a_i64 r20.1.Goal.Coeffs)])]⟩ ?_ (fun hS2653_10 => ?_)
      · refine TZ_each [0, 5] (by kernel_rfl) rfl ?_
        refine ⟨?_, ?_⟩
        · refine ⟨_, rfl, ?_⟩
          refine TL_buildSlice 2734 (es := List.map a_Term ([] : List Term)) el39 z40 rfl rfl rfl rfl rfl rfl rfl rfl rfl ?_
          refine TL_nil ?_
          refine TZ_keepH [0, 1, 4, 5, 6, 15, 16, 17, 18, 19, 20, 21, 22, 23, 24, 25, 27] [11, 2734] rfl rfl rfl rfl (by rw [hF]; rfl) ?_
          exact hS2653_4
        · refine ⟨_, rfl, ?_⟩
          refine TL_pure rfl rfl rfl rfl (op_load_agg ag40 sz40 rfl rfl rfl) ?_
          refine TL_nil ?_
          refine TZ_keepH [0, 1, 4, 5, 6, 15, 16, 17, 18, 19, 20, 21, 22, 24, 25, 27, 28] [11] rfl rfl rfl rfl (by rw [hF]; rfl) ?_
          exact hS2653_9
      refine TZ_cut 5 [false, true, false, false, true, true, true, false, false] ⟨[(0, .sl 1 (List.map a_u8 p0)), (1, .sl 1 (List.map a_u8 p1)), (4, .bool false), (5, .ptr 11 0 0), (6, .sl 5 (List.map a_Node r20.2)), (15, .sl 1 (List.map a_u8 p0)), (16, .sl 1 (List.map a_u8 p1)), (17, .bool r17), (18, .tup [.agg [.sl 2 (List.map a_Term r20.1.Facts), .int .i64 r20.1.Goal.Const, .sl 1 (List.map a_i64 r20.1.Goal.Coeffs)], .sl 5 (List.map a_Node r20.2)]), (19, .sl 1 (List.map a_u8 p0)), (20, .tup [.agg [.sl 2 (List.map a_Term r20.1.Facts), .int .i64 r20.1.Goal.Const, .sl 1 (List.map a_i64 r20.1.Goal.Coeffs)], .sl 5 (List.map a_Node r20.2)]), (21, .agg [.sl 2 (List.map a_Term r20.1.Facts), .int .i64 r20.1.Goal.Const, .sl 1 (List.map a_i64 r20.1.Goal.Coeffs)]), (22, .sl 5 (List.map a_Node r20.2)), (24, .ptr 11 0 0), (27, .ptr 11 0 1), (28, .agg [.int .i64 r20.1.Goal.Const, .sl 1 (List.map a_i64 r20.1.Goal.Coeffs)]), (29, .ow 3214)], [(11, .box [.sl 2 (List.map a_Term r20.1.Facts), .int .i64 r20.1.Goal.Const, .sl 1 (List.map a_i64 r20.1.Goal.Coeffs)]), (3214, .arr ⟨false, false⟩ 2 40 (List.map a_Term [r20.1.Goal]))]⟩ ?_ (fun hS2653_11 => ?_)
      · refine TZ_each [0, 2] (by kernel_rfl) rfl ?_
        refine ⟨?_, ?_⟩
        · refine ⟨_, rfl, ?_⟩
          refine TL_buildSlice 2734 (es := List.map a_Term ([] : List Term)) el39 z40 rfl rfl rfl rfl rfl rfl rfl rfl rfl ?_
          refine TL_nil ?_
          refine TZ_keepH [0, 1, 4, 5, 6, 15, 16, 17, 18, 19, 20, 21, 22, 23, 24, 27, 28, 29] [11, 2734, 3214] rfl rfl rfl rfl (by rw [hF]; rfl) ?_
          exact hS2653_5
        · refine ⟨_, rfl, ?_⟩
          refine TL_pure rfl rfl rfl rfl (op_load_one ag39 rfl rfl) ?_
          refine TL_nil ?_
          refine TZ_keepH [0, 1, 4, 5, 6, 15, 16, 17, 18, 19, 20, 21, 22, 24, 25, 27, 28, 29] [11, 3214] rfl rfl rfl rfl (by rw [hF]; rfl) ?_
          exact hS2653_8
      refine TZ_cut 6 [false, true, false, false, true, true, false, false, false] ⟨[(0, .sl 1 (List.map a_u8 p0)), (1, .sl 1 (List.map a_u8 p1)), (4, .bool false), (5, .ptr 11 0 0), (6, .sl 5 (List.map a_Node r20.2)), (15, .sl 1 (List.map a_u8 p0)), (16, .sl 1 (List.map a_u8 p1)), (17, .bool r17), (18, .tup [.agg [.sl 2 (List.map a_Term r20.1.Facts), .int .i64 r20.1.Goal.Const, .sl 1 (List.map a_i64 r20.1.Goal.Coeffs)], .sl 5 (List.map a_Node r20.2)]), (19, .sl 1 (List.map a_u8 p0)), (20, .tup [.agg [.sl 2 (List.map a_Term r20.1.Facts), .int .i64 r20.1.Goal.Const, .sl 1 (List.map a_i64 r20.1.Goal.Coeffs)], .sl 5 (List.map a_Node r20.2)]), (21, .agg [.sl 2 (List.map a_Term r20.1.Facts), .int .i64 r20.1.Goal.Const, .sl 1 (List.map a_i64 r20.1.Goal.Coeffs)]), (22, .sl 5 (List.map a_Node r20.2)), (24, .ptr 11 0 0), (27, .ptr 11 0 1), (28, .agg [.int .i64 r20.1.Goal.Const, .sl 1 (List.map a_i64 r20.1.Goal.Coeffs)])], [(11, .box [.sl 2 (List.map a_Term r20.1.Facts), .int .i64 r20.1.Goal.Const, .sl 1 (List.map a_i64 r20.1.Goal.Coeffs)])]⟩ ?_ (fun hS2653_12 => ?_)
      · refine TZ_each [0, 2, 6] (by kernel_rfl) rfl ?_
        refine ⟨?_, ?_, ?_⟩
        · refine ⟨_, rfl, ?_⟩
          refine TL_buildSlice 2734 (es := List.map a_Term ([] : List Term)) el39 z40 rfl rfl rfl rfl rfl rfl rfl rfl rfl ?_
          refine TL_nil ?_
          refine TZ_keepH [0, 1, 4, 5, 6, 15, 16, 17, 18, 19, 20, 21, 22, 23, 24, 27, 28] [11, 2734] rfl rfl rfl rfl (by rw [hF]; rfl) ?_
          exact hS2653_6
        · refine ⟨_, rfl, ?_⟩
          refine TL_pure rfl rfl rfl rfl (op_load_one ag39 rfl rfl) ?_
          refine TL_nil ?_
          refine TZ_keepH [0, 1, 4, 5, 6, 15, 16, 17, 18, 19, 20, 21, 22, 24, 25, 27, 28] [11] rfl rfl rfl rfl (by rw [hF]; rfl) ?_
          exact hS2653_9
        · refine ⟨_, rfl, ?_⟩
          refine TL_buildSlice 3214 (es := List.map a_Term [r20.1.Goal]) el39 z40 rfl rfl rfl rfl rfl rfl rfl rfl rfl ?_
          refine TL_nil ?_
          refine TZ_keepH [0, 1, 4, 5, 6, 15, 16, 17, 18, 19, 20, 21, 22, 24, 27, 28, 29] [11, 3214] rfl rfl rfl rfl (by rw [hF]; rfl) ?_
          exact hS2653_11
      refine TZ_each [0, 2, 5] (by kernel_rfl) rfl ?_
      refine ⟨?_, ?_, ?_⟩
      · refine ⟨_, rfl, ?_⟩
        refine TL_buildSlice 2734 (es := List.map a_Term ([] : List Term)) el39 z40 rfl rfl rfl rfl rfl rfl rfl rfl rfl ?_
        refine TL_nil ?_
        refine TZ_keepH [0, 1, 4, 5, 6, 15, 16, 17, 18, 19, 20, 21, 22, 23, 24, 27] [11, 2734] rfl rfl rfl rfl (by rw [hF]; rfl) ?_
        exact hS2653_7
      · refine ⟨_, rfl, ?_⟩
        refine TL_pure rfl rfl rfl rfl (op_load_one ag39 rfl rfl) ?_
        refine TL_nil ?_
        refine TZ_keepH [0, 1, 4, 5, 6, 15, 16, 17, 18, 19, 20, 21, 22, 24, 25, 27] [11] rfl rfl rfl rfl (by rw [hF]; rfl) ?_
        exact hS2653_10
      · refine ⟨_, rfl, ?_⟩
        refine TL_pure rfl rfl rfl rfl (op_load_agg ag40 sz40 rfl rfl rfl) ?_
        refine TL_nil ?_
        refine TZ_keepH [0, 1, 4, 5, 6, 15, 16, 17, 18, 19, 20, 21, 22, 24, 27, 28] [11] rfl rfl rfl rfl (by rw [hF]; rfl) ?_
        exact hS2653_12
end Go.Mod
