import Derived.Test.YtmbbpabjdalfaaaGf
namespace Go.Mod
open Go Go.AM Go.Proofs
set_option linter.unusedVariables false
set_option linter.unusedSimpArgs false
set_option maxRecDepth 100000
set_option maxHeartbeats 8000000
theorem c_impl_subproofs (p0 : Node) (out : Int) (hm : m_impl_subproofs p0 = some out) : ACall Try.prog 105 [.agg [.int .i64 p0.Kind, .int .i64 p0.Fact, .int .i64 p0.Term.Const, .sl 1 (List.map a_i64 p0.Term.Coeffs), .sl 1 (List.map a_i64 p0.Multipliers)]] [] (.int .i64 out) [] := by
  refine ACall.intro Try.func105 rfl Try.ntmps105 rfl (fun F hF => ?_)
  unfold m_impl_subproofs at hm
  refine T_seq ?_
  refine T_region ?_
  refine TL_box 11 rfl rfl rfl rfl rfl rfl rfl ?_
  refine TL_pure rfl rfl rfl rfl (op_assign rfl) ?_
  refine TL_nil ?_
  refine T_seq ?_
  refine T_drawZ [] mix (by kernel_rfl) rfl ?_
  obtain ⟨r12, hr12, hm⟩ := bindS hm
  refine TZ_pure 0 (by kernel_rfl) rfl rfl rfl rfl rfl (op_fieldAddr fa62_1 rfl rfl) ?_
  refine TZ_pure 1 (by kernel_rfl) rfl rfl rfl rfl rfl (op_load_one ag2 rfl rfl) ?_
  refine TZ_pure 2 (by kernel_rfl) rfl rfl rfl rfl rfl (op_eql rfl rfl) ?_
  refine TZ_pure 3 (by kernel_rfl) rfl rfl rfl rfl rfl (op_fieldAddr fa62_2 rfl rfl) ?_
  refine TZ_pure 4 (by kernel_rfl) rfl rfl rfl rfl rfl (op_load_agg ag40 sz40 rfl rfl rfl) ?_
  refine TZ_pure 6 (by kernel_rfl) rfl rfl rfl rfl rfl (op_fieldAddr fa62_3 rfl rfl) ?_
  refine TZ_pure 7 (by kernel_rfl) rfl rfl rfl rfl rfl (op_load_one ag32 rfl rfl) ?_
  refine TZ_pure 8 (by kernel_rfl) rfl rfl rfl rfl rfl (op_lenT Try.underlying32 rfl (List.length_map _)) ?_
  refine TZ_fact (fun _ _ _ hr => RelP.slLen (i := 14) rfl hr) (fun hlen15 => ?_)
  rw [List.length_map] at hlen15
  refine TZ_pure 9 (by kernel_rfl) rfl rfl rfl rfl rfl (op_eql rfl rfl) ?_
  refine TZ_one 5 (by kernel_rfl) rfl ?_
  refine TL_callF (c_impl_Term_isZero p0.Term r12 hr12) Try.call131 rfl rfl rfl rfl rfl ?_
  refine TL_nil ?_
  refine TZ_pure 10 (by kernel_rfl) rfl rfl rfl rfl rfl (op_assign rfl) ?_
  refine TZ_pure 11 (by kernel_rfl) rfl rfl rfl rfl rfl (op_assign rfl) ?_
  refine TZ_pure 12 (by kernel_rfl) rfl rfl rfl rfl rfl (op_assign rfl) ?_
  refine TZ_done (by kernel_rfl) ?_
  refine T_seq ?_
  refine T_region ?_
  refine TL_pure rfl rfl rfl rfl (op_assign rfl) ?_
  refine TL_nil ?_
  refine T_seq ?_
  refine T_seq ?_
  refine T_region ?_
  refine TL_pure rfl rfl rfl rfl (op_fieldAddr fa62_0 rfl rfl) ?_
  refine TL_pure rfl rfl rfl rfl (op_load_one ag2 rfl rfl) ?_
  refine TL_nil ?_
  refine T_block ?_
  refine T_seq ?_
  refine T_region ?_
  refine TL_pure rfl rfl rfl rfl (op_eql rfl rfl) ?_
  refine TL_pure rfl rfl rfl rfl (op_assign rfl) ?_
  refine TL_nil ?_
  refine T_cond rfl (fun hq => ?_) (fun hq => ?_)
  · replace hm := condT hq hm
    refine T_seq ?_
    refine T_region ?_
    refine TL_pure rfl rfl rfl rfl (op_move rfl) ?_
    refine TL_pure rfl rfl rfl rfl (op_move rfl) ?_
    refine TL_join 2 (fun _ : Unit => ⟨[(1, .ptr 11 0 0), (6, .int .i64 (-1 : Int)), (24, .bool ((decide (p0.Fact = (0 : Int))) && r12))], [(11, .box [.int .i64 p0.Kind, .int .i64 p0.Fact, .int .i64 p0.Term.Const, .sl 1 (List.map a_i64 p0.Term.Coeffs), .sl 1 (List.map a_i64 p0.Multipliers)])]⟩) (fun _ => True) (fun _ _ => ?_) (fun hjj => ?_)
    · refine TL_pure rfl rfl rfl rfl (op_move rfl) ?_
      refine TL_join 5 (fun _ : Unit => ⟨[(1, .ptr 11 0 0), (6, .int .i64 (-1 : Int)), (30, .bool (((decide (p0.Fact = (0 : Int))) && r12) && (decide ((p0.Multipliers.length : Int) ≤ (20 : Int)))))], [(11, .box [.int .i64 p0.Kind, .int .i64 p0.Fact, .int .i64 p0.Term.Const, .sl 1 (List.map a_i64 p0.Term.Coeffs), .sl 1 (List.map a_i64 p0.Multipliers)])]⟩) (fun _ => True) (fun _ _ => ?_) (fun hjj => ?_)
      · refine TL_pure rfl rfl rfl rfl (op_move rfl) ?_
        refine TL_split 31 rfl rfl rfl (fun hq => ?_) (fun hq => ?_)
        · replace hm := condT hq hm
          refine TL_want rfl rfl ?_
          refine TL_pure rfl rfl rfl rfl (op_fieldAddr fa62_3 rfl rfl) ?_
          refine TL_want rfl rfl ?_
          refine TL_pure rfl rfl rfl rfl (op_load_one ag32 rfl rfl) ?_
          refine TL_want rfl rfl ?_
          obtain ⟨r34, hr34, hm⟩ := bindS hm
          refine TL_callF (c_impl_allWithin p0.Multipliers (0 : Int) (1000000 : Int) r34 hr34) Try.call117 rfl rfl rfl rfl rfl ?_
          refine TL_pure rfl rfl rfl rfl (op_pick_true rfl rfl) ?_
          refine TL_nil ?_
          refine T_cond rfl (fun hq => ?_) (fun hq => ?_)
          · replace hm := condT hq hm
            refine T_region ?_
            refine TL_pure rfl rfl rfl rfl (op_assign rfl) ?_
            refine TL_nil ?_
            refine T_seq ?_
            refine T_region ?_
            refine TL_pure rfl rfl rfl rfl (op_move rfl) ?_
            refine TL_pure rfl rfl rfl rfl (op_assign rfl) ?_
            refine TL_nil ?_
            refine T_keepH [2] [] rfl rfl rfl rfl (by rw [hF]; rfl) ?_
            refine T_ret ?_
            obtain rfl := someI hm
            refine ⟨[_], [], ⟨rfl, trivial⟩, ?_, rfl, rfl, rfl, rfl⟩
            rfl
          · replace hm := condF hq hm
            refine T_skip ?_
            refine T_seq ?_
            refine T_region ?_
            refine TL_pure rfl rfl rfl rfl (op_move rfl) ?_
            refine TL_pure rfl rfl rfl rfl (op_assign rfl) ?_
            refine TL_nil ?_
            refine T_keepH [2] [] rfl rfl rfl rfl (by rw [hF]; rfl) ?_
            refine T_ret ?_
            obtain rfl := someI hm
            refine ⟨[_], [], ⟨rfl, trivial⟩, ?_, rfl, rfl, rfl, rfl⟩
            rfl
        · replace hm := condF hq hm
          refine TL_pass rfl rfl rfl rfl rfl rfl rfl ?_
          refine TL_pass rfl rfl rfl rfl rfl rfl rfl ?_
          refine TL_pass rfl rfl rfl rfl rfl rfl rfl ?_
          refine TL_pure rfl rfl rfl rfl (op_pick_false rfl rfl) ?_
          refine TL_nil ?_
          refine T_cond_false rfl ?_
          refine T_skip ?_
          refine T_seq ?_
          refine T_region ?_
          refine TL_pure rfl rfl rfl rfl (op_move rfl) ?_
          refine TL_pure rfl rfl rfl rfl (op_assign rfl) ?_
          refine TL_nil ?_
          refine T_keepH [2] [] rfl rfl rfl rfl (by rw [hF]; rfl) ?_
          refine T_ret ?_
          obtain rfl := someI hm
          refine ⟨[_], [], ⟨rfl, trivial⟩, ?_, rfl, rfl, rfl, rfl⟩
          rfl
      · refine TL_split 25 rfl rfl rfl (fun hq => ?_) (fun hq => ?_)
        · refine TL_want rfl rfl ?_
          refine TL_pure rfl rfl rfl rfl (op_fieldAddr fa62_3 rfl rfl) ?_
          refine TL_want rfl rfl ?_
          refine TL_pure rfl rfl rfl rfl (op_load_one ag32 rfl rfl) ?_
          refine TL_want rfl rfl ?_
          refine TL_pure rfl rfl rfl rfl (op_lenT Try.underlying32 rfl (List.length_map _)) ?_
          refine TL_want rfl rfl ?_
          refine TL_pure rfl rfl rfl rfl (op_leq rfl rfl) ?_
          refine TL_pure rfl rfl rfl rfl (op_pick_true rfl rfl) ?_
          refine TL_keepH [1, 6, 30] [11] rfl rfl rfl rfl (by rw [hF]; rfl) ?_
          exact TL_cast _ (by first | (rw [hq, Bool.true_and]; done) | (rw [hq]; rfl)) (hjj () trivial)
        · refine TL_pass rfl rfl rfl rfl rfl rfl rfl ?_
          refine TL_pass rfl rfl rfl rfl rfl rfl rfl ?_
          refine TL_pass rfl rfl rfl rfl rfl rfl rfl ?_
          refine TL_pass rfl rfl rfl rfl rfl rfl rfl ?_
          refine TL_pure rfl rfl rfl rfl (op_pick_false rfl rfl) ?_
          refine TL_keepH [1, 6, 30] [11] rfl rfl rfl rfl (by rw [hF]; rfl) ?_
          exact TL_cast _ (by first | (rw [hq, Bool.false_and]; done) | (rw [hq]; rfl)) (hjj () trivial)
    · refine TL_split 22 rfl rfl rfl (fun hq => ?_) (fun hq => ?_)
      · refine TL_want rfl rfl ?_
        refine TL_pure rfl rfl rfl rfl (op_move rfl) ?_
        refine TL_pure rfl rfl rfl rfl (op_pick_true rfl rfl) ?_
        refine TL_keepH [1, 6, 24] [11] rfl rfl rfl rfl (by rw [hF]; rfl) ?_
        exact TL_cast _ (by first | (rw [hq, Bool.true_and]; done) | (rw [hq]; rfl)) (hjj () trivial)
      · refine TL_pass rfl rfl rfl rfl rfl rfl rfl ?_
        refine TL_pure rfl rfl rfl rfl (op_pick_false rfl rfl) ?_
        refine TL_keepH [1, 6, 24] [11] rfl rfl rfl rfl (by rw [hF]; rfl) ?_
        exact TL_cast _ (by first | (rw [hq, Bool.false_and]; done) | (rw [hq]; rfl)) (hjj () trivial)
  · replace hm := condF hq hm
    refine T_seq ?_
    refine T_region ?_
    refine TL_pure rfl rfl rfl rfl (op_eql rfl rfl) ?_
    refine TL_pure rfl rfl rfl rfl (op_assign rfl) ?_
    refine TL_nil ?_
    refine T_cond rfl (fun hq => ?_) (fun hq => ?_)
    · replace hm := condT hq hm
      refine T_seq ?_
      refine T_region ?_
      refine TL_pure rfl rfl rfl rfl (op_move rfl) ?_
      refine TL_pure rfl rfl rfl rfl (op_move rfl) ?_
      refine TL_join 2 (fun _ : Unit => ⟨[(1, .ptr 11 0 0), (6, .int .i64 (-1 : Int)), (41, .bool ((decide (p0.Fact = (0 : Int))) && (decide ((p0.Multipliers.length : Int) = (0 : Int)))))], [(11, .box [.int .i64 p0.Kind, .int .i64 p0.Fact, .int .i64 p0.Term.Const, .sl 1 (List.map a_i64 p0.Term.Coeffs), .sl 1 (List.map a_i64 p0.Multipliers)])]⟩) (fun _ => True) (fun _ _ => ?_) (fun hjj => ?_)
      · refine TL_pure rfl rfl rfl rfl (op_move rfl) ?_
        refine TL_split 42 rfl rfl rfl (fun hq => ?_) (fun hq => ?_)
        · replace hm := condT hq hm
          refine TL_want rfl rfl ?_
          refine TL_pure rfl rfl rfl rfl (op_fieldAddr fa62_2 rfl rfl) ?_
          refine TL_want rfl rfl ?_
          refine TL_pure rfl rfl rfl rfl (op_load_agg ag40 sz40 rfl rfl rfl) ?_
          refine TL_want rfl rfl ?_
          obtain ⟨r45, hr45, hm⟩ := bindS hm
          refine TL_callF (c_impl_ValidTerm p0.Term r45 hr45) Try.call79 rfl rfl rfl rfl rfl ?_
          refine TL_pure rfl rfl rfl rfl (op_pick_true rfl rfl) ?_
          refine TL_nil ?_
          refine T_cond rfl (fun hq => ?_) (fun hq => ?_)
          · replace hm := condT hq hm
            refine T_region ?_
            refine TL_pure rfl rfl rfl rfl (op_assign rfl) ?_
            refine TL_nil ?_
            refine T_seq ?_
            refine T_region ?_
            refine TL_pure rfl rfl rfl rfl (op_move rfl) ?_
            refine TL_pure rfl rfl rfl rfl (op_assign rfl) ?_
            refine TL_nil ?_
            refine T_keepH [2] [] rfl rfl rfl rfl (by rw [hF]; rfl) ?_
            refine T_ret ?_
            obtain rfl := someI hm
            refine ⟨[_], [], ⟨rfl, trivial⟩, ?_, rfl, rfl, rfl, rfl⟩
            rfl
          · replace hm := condF hq hm
            refine T_skip ?_
            refine T_seq ?_
            refine T_region ?_
            refine TL_pure rfl rfl rfl rfl (op_move rfl) ?_
            refine TL_pure rfl rfl rfl rfl (op_assign rfl) ?_
            refine TL_nil ?_
            refine T_keepH [2] [] rfl rfl rfl rfl (by rw [hF]; rfl) ?_
            refine T_ret ?_
            obtain rfl := someI hm
            refine ⟨[_], [], ⟨rfl, trivial⟩, ?_, rfl, rfl, rfl, rfl⟩
            rfl
        · replace hm := condF hq hm
          refine TL_pass rfl rfl rfl rfl rfl rfl rfl ?_
          refine TL_pass rfl rfl rfl rfl rfl rfl rfl ?_
          refine TL_pass rfl rfl rfl rfl rfl rfl rfl ?_
          refine TL_pure rfl rfl rfl rfl (op_pick_false rfl rfl) ?_
          refine TL_nil ?_
          refine T_cond_false rfl ?_
          refine T_skip ?_
          refine T_seq ?_
          refine T_region ?_
          refine TL_pure rfl rfl rfl rfl (op_move rfl) ?_
          refine TL_pure rfl rfl rfl rfl (op_assign rfl) ?_
          refine TL_nil ?_
          refine T_keepH [2] [] rfl rfl rfl rfl (by rw [hF]; rfl) ?_
          refine T_ret ?_
          obtain rfl := someI hm
          refine ⟨[_], [], ⟨rfl, trivial⟩, ?_, rfl, rfl, rfl, rfl⟩
          rfl
      · refine TL_split 39 rfl rfl rfl (fun hq => ?_) (fun hq => ?_)
        · refine TL_want rfl rfl ?_
          refine TL_pure rfl rfl rfl rfl (op_move rfl) ?_
          refine TL_pure rfl rfl rfl rfl (op_pick_true rfl rfl) ?_
          refine TL_keepH [1, 6, 41] [11] rfl rfl rfl rfl (by rw [hF]; rfl) ?_
          exact TL_cast _ (by first | (rw [hq, Bool.true_and]; done) | (rw [hq]; rfl)) (hjj () trivial)
        · refine TL_pass rfl rfl rfl rfl rfl rfl rfl ?_
          refine TL_pure rfl rfl rfl rfl (op_pick_false rfl rfl) ?_
          refine TL_keepH [1, 6, 41] [11] rfl rfl rfl rfl (by rw [hF]; rfl) ?_
          exact TL_cast _ (by first | (rw [hq, Bool.false_and]; done) | (rw [hq]; rfl)) (hjj () trivial)
    · replace hm := condF hq hm
      refine T_seq ?_
      refine T_region ?_
      refine TL_pure rfl rfl rfl rfl (op_eql rfl rfl) ?_
      refine TL_pure rfl rfl rfl rfl (op_assign rfl) ?_
      refine TL_nil ?_
      refine T_cond rfl (fun hq => ?_) (fun hq => ?_)
      · replace hm := condT hq hm
        refine T_seq ?_
        refine T_region ?_
        refine TL_pure rfl rfl rfl rfl (op_fieldAddr fa62_1 rfl rfl) ?_
        refine TL_pure rfl rfl rfl rfl (op_load_one ag2 rfl rfl) ?_
        obtain ⟨r51, hr51, hm⟩ := bindS hm
        refine TL_callF (c_impl_within p0.Fact (0 : Int) (19 : Int) r51 hr51) Try.call103 rfl rfl rfl rfl rfl ?_
        refine TL_pure rfl rfl rfl rfl (op_move rfl) ?_
        refine TL_join 2 (fun _ : Unit => ⟨[(5, .bool (decide ((p0.Multipliers.length : Int) = (0 : Int)))), (6, .int .i64 (-1 : Int)), (54, .bool (r51 && r12))], []⟩) (fun _ => True) (fun _ _ => ?_) (fun hjj => ?_)
        · refine TL_pure rfl rfl rfl rfl (op_move rfl) ?_
          refine TL_join 2 (fun _ : Unit => ⟨[(6, .int .i64 (-1 : Int)), (57, .bool ((r51 && r12) && (decide ((p0.Multipliers.length : Int) = (0 : Int)))))], []⟩) (fun _ => True) (fun _ _ => ?_) (fun hjj => ?_)
          · refine TL_nil ?_
            refine T_cond rfl (fun hq => ?_) (fun hq => ?_)
            · replace hm := condT hq hm
              refine T_region ?_
              refine TL_pure rfl rfl rfl rfl (op_assign rfl) ?_
              refine TL_nil ?_
              refine T_seq ?_
              refine T_region ?_
              refine TL_pure rfl rfl rfl rfl (op_move rfl) ?_
              refine TL_pure rfl rfl rfl rfl (op_assign rfl) ?_
              refine TL_nil ?_
              refine T_keepH [2] [] rfl rfl rfl rfl (by rw [hF]; rfl) ?_
              refine T_ret ?_
              obtain rfl := someI hm
              refine ⟨[_], [], ⟨rfl, trivial⟩, ?_, rfl, rfl, rfl, rfl⟩
              rfl
            · replace hm := condF hq hm
              refine T_skip ?_
              refine T_seq ?_
              refine T_region ?_
              refine TL_pure rfl rfl rfl rfl (op_move rfl) ?_
              refine TL_pure rfl rfl rfl rfl (op_assign rfl) ?_
              refine TL_nil ?_
              refine T_keepH [2] [] rfl rfl rfl rfl (by rw [hF]; rfl) ?_
              refine T_ret ?_
              obtain rfl := someI hm
              refine ⟨[_], [], ⟨rfl, trivial⟩, ?_, rfl, rfl, rfl, rfl⟩
              rfl
          · refine TL_split 55 rfl rfl rfl (fun hq => ?_) (fun hq => ?_)
            · refine TL_want rfl rfl ?_
              refine TL_pure rfl rfl rfl rfl (op_move rfl) ?_
              refine TL_pure rfl rfl rfl rfl (op_pick_true rfl rfl) ?_
              refine TL_keepH [6, 57] [] rfl rfl rfl rfl (by rw [hF]; rfl) ?_
              exact TL_cast _ (by first | (rw [hq, Bool.true_and]; done) | (rw [hq]; rfl)) (hjj () trivial)
            · refine TL_pass rfl rfl rfl rfl rfl rfl rfl ?_
              refine TL_pure rfl rfl rfl rfl (op_pick_false rfl rfl) ?_
              refine TL_keepH [6, 57] [] rfl rfl rfl rfl (by rw [hF]; rfl) ?_
              exact TL_cast _ (by first | (rw [hq, Bool.false_and]; done) | (rw [hq]; rfl)) (hjj () trivial)
        · refine TL_split 52 rfl rfl rfl (fun hq => ?_) (fun hq => ?_)
          · refine TL_want rfl rfl ?_
            refine TL_pure rfl rfl rfl rfl (op_move rfl) ?_
            refine TL_pure rfl rfl rfl rfl (op_pick_true rfl rfl) ?_
            refine TL_keepH [5, 6, 54] [] rfl rfl rfl rfl (by rw [hF]; rfl) ?_
            exact TL_cast _ (by first | (rw [hq, Bool.true_and]; done) | (rw [hq]; rfl)) (hjj () trivial)
          · refine TL_pass rfl rfl rfl rfl rfl rfl rfl ?_
            refine TL_pure rfl rfl rfl rfl (op_pick_false rfl rfl) ?_
            refine TL_keepH [5, 6, 54] [] rfl rfl rfl rfl (by rw [hF]; rfl) ?_
            exact TL_cast _ (by first | (rw [hq, Bool.false_and]; done) | (rw [hq]; rfl)) (hjj () trivial)
      · replace hm := condF hq hm
        refine T_skip ?_
        refine T_seq ?_
        refine T_region ?_
        refine TL_pure rfl rfl rfl rfl (op_move rfl) ?_
        refine TL_pure rfl rfl rfl rfl (op_assign rfl) ?_
        refine TL_nil ?_
        refine T_keepH [2] [] rfl rfl rfl rfl (by rw [hF]; rfl) ?_
        refine T_ret ?_
        obtain rfl := someI hm
        refine ⟨[_], [], ⟨rfl, trivial⟩, ?_, rfl, rfl, rfl, rfl⟩
        rfl
theorem c_impl_behindProof_F (rec_impl_behindProof : (List Node) → Int → Option (Int × Int × Bool)) (hrec_impl_behindProof : ∀ (p0 : List Node) (p1 : Int) (out : Int × Int × Bool), rec_impl_behindProof p0 p1 = some out → ACall Try.prog 51 [.sl 5 (List.map a_Node p0), .int .i64 p1] [] (.tup [.int .i64 out.1, .int .i64 out.2.1, .bool out.2.2]) []) (p0 : List Node) (p1 : Int) (out : Int × Int × Bool) (hm : m_impl_behindProof_F rec_impl_behindProof p0 p1 = some out) : ACall Try.prog 51 [.sl 5 (List.map a_Node p0), .int .i64 p1] [] (.tup [.int .i64 out.1, .int .i64 out.2.1, .bool out.2.2]) [] := by
  refine ACall.intro Try.func51 rfl Try.ntmps51 rfl (fun F hF => ?_)
  unfold m_impl_behindProof_F at hm
  refine T_seq ?_
  refine T_region ?_
  refine TL_pure rfl rfl rfl rfl (op_assign rfl) ?_
  refine TL_pure rfl rfl rfl rfl (op_assign rfl) ?_
  refine TL_pure rfl rfl rfl rfl (op_assign rfl) ?_
  refine TL_nil ?_
  refine T_seq ?_
  refine T_seq ?_
  refine T_region ?_
  refine TL_pure rfl rfl rfl rfl (op_move rfl) ?_
  refine TL_pure rfl rfl rfl rfl (op_move rfl) ?_
  refine TL_pure rfl rfl rfl rfl (op_lenT Try.underlying24 rfl (List.length_map _)) ?_
  refine TL_fact (fun _ _ _ hr => RelP.slLen (i := 13) rfl hr) (fun hlen14 => ?_)
  rw [List.length_map] at hlen14
  refine TL_pure rfl rfl rfl rfl (op_geq rfl rfl) ?_
  refine TL_nil ?_
  refine T_cond rfl (fun hq => ?_) (fun hq => ?_)
  · replace hm := condT hq hm
    refine T_seq ?_
    refine T_region ?_
    refine TL_pure rfl rfl rfl rfl (op_assign rfl) ?_
    refine TL_pure rfl rfl rfl rfl (op_assign rfl) ?_
    refine TL_pure rfl rfl rfl rfl (op_assign rfl) ?_
    refine TL_nil ?_
    refine T_keepH [4, 5, 6] [] rfl rfl rfl rfl (by rw [hF]; rfl) ?_
    refine T_ret ?_
    obtain rfl := someI hm
    refine ⟨[_, _, _], [], ⟨rfl, rfl, rfl, trivial⟩, ?_, rfl, rfl, rfl, rfl⟩
    rfl
  · replace hm := condF hq hm
    refine T_skip ?_
    refine T_seq ?_
    refine T_region ?_
    refine TL_pure rfl rfl rfl rfl (op_move rfl) ?_
    refine TL_pure rfl rfl rfl rfl (op_move rfl) ?_
    obtain ⟨x18, hx18, hm⟩ := bindS hm
    refine TL_pure rfl rfl rfl rfl (op_indexT el24 rfl rfl hx18 rfl) ?_
    refine TL_pure rfl rfl rfl rfl (op_load_agg ag62 sz62 rfl rfl rfl) ?_
    obtain ⟨r20, hr20, hm⟩ := bindS hm
    refine TL_callF (c_impl_subproofs x18 r20 hr20) Try.call105 rfl rfl rfl rfl rfl ?_
    refine TL_pure rfl rfl rfl rfl (op_assign rfl) ?_
    refine TL_nil ?_
    refine T_seq ?_
    refine T_seq ?_
    refine T_region ?_
    refine TL_pure rfl rfl rfl rfl (op_move rfl) ?_
    refine TL_pure rfl rfl rfl rfl (op_lss rfl rfl) ?_
    refine TL_nil ?_
    refine T_cond rfl (fun hq => ?_) (fun hq => ?_)
    · replace hm := condT hq hm
      refine T_seq ?_
      refine T_region ?_
      refine TL_pure rfl rfl rfl rfl (op_assign rfl) ?_
      refine TL_pure rfl rfl rfl rfl (op_assign rfl) ?_
      refine TL_pure rfl rfl rfl rfl (op_assign rfl) ?_
      refine TL_nil ?_
      refine T_keepH [4, 5, 6] [] rfl rfl rfl rfl (by rw [hF]; rfl) ?_
      refine T_ret ?_
      obtain rfl := someI hm
      refine ⟨[_, _, _], [], ⟨rfl, rfl, rfl, trivial⟩, ?_, rfl, rfl, rfl, rfl⟩
      rfl
    · replace hm := condF hq hm
      refine T_skip ?_
      refine T_seq ?_
      refine T_region ?_
      refine TL_pure rfl rfl rfl rfl (op_move rfl) ?_
      refine TL_pure rfl rfl rfl rfl (op_addW rfl rfl) ?_
      refine TL_pure rfl rfl rfl rfl (op_assign rfl) ?_
      refine TL_nil ?_
      refine T_seq ?_
      refine T_region ?_
      refine TL_pure rfl rfl rfl rfl (op_assign rfl) ?_
      refine TL_nil ?_
      refine T_seq ?_
      refine T_block ?_
      refine T_keepH [0, 1, 7, 8] [] rfl rfl rfl rfl (by rw [hF]; rfl) ?_
      refine T_loop ?_
      obtain ⟨u0, hl0, hm⟩ := bindS hm
      refine TR_iter2 (m_impl_behindProof_F_L0 rec_impl_behindProof p0) (fun (s0 : Int × Int × Int) => ⟨[(0, .sl 5 (List.map a_Node p0)), (1, .int .i64 s0.1), (7, .int .i64 s0.2.1), (8, .int .i64 s0.2.2)], []⟩) (fun u0 => match u0 with | .inl u0 => .exit 0 | .inr u0 => .ret) (fun u0 => match u0 with | .inl u0 => ⟨[(1, .int .i64 u0.1), (8, .int .i64 u0.2)], []⟩ | .inr u0 => ⟨[(4, .int .i64 u0.1), (5, .int .i64 u0.2.1), (6, .bool u0.2.2)], []⟩) (fun u0 => m_impl_behindProof_F_A0 u0 = some out) hl0 hm (fun u0 hm => ?_) (fun hx0 s0 c0 hm hc0 => ?_)
      · rcases u0 with u0 | u0
        · unfold m_impl_behindProof_F_A0 at hm
          refine T_seq ?_
          refine T_region ?_
          refine TL_pure rfl rfl rfl rfl (op_move rfl) ?_
          refine TL_pure rfl rfl rfl rfl (op_move rfl) ?_
          refine TL_pure rfl rfl rfl rfl (op_addW rfl rfl) ?_
          refine TL_pure rfl rfl rfl rfl (op_assign rfl) ?_
          refine TL_pure rfl rfl rfl rfl (op_assign rfl) ?_
          refine TL_pure rfl rfl rfl rfl (op_assign rfl) ?_
          refine TL_nil ?_
          refine T_keepH [4, 5, 6] [] rfl rfl rfl rfl (by rw [hF]; rfl) ?_
          refine T_ret ?_
          obtain rfl := someI hm
          refine ⟨[_, _, _], [], ⟨rfl, rfl, rfl, trivial⟩, ?_, rfl, rfl, rfl, rfl⟩
          rfl
        · unfold m_impl_behindProof_F_A0 at hm
          obtain rfl := someI hm
          refine ⟨[_, _, _], [], ⟨rfl, rfl, rfl, trivial⟩, ?_, rfl, rfl, rfl, rfl⟩
          rfl
      · unfold m_impl_behindProof_F_L0 at hm
        refine T_seq ?_
        refine T_seq ?_
        refine T_region ?_
        refine TL_pure rfl rfl rfl rfl (op_move rfl) ?_
        refine TL_pure rfl rfl rfl rfl (op_gtr rfl rfl) ?_
        refine TL_nil ?_
        refine T_cond rfl (fun hq => ?_) (fun hq => ?_)
        · replace hm := condT hq hm
          refine T_skip ?_
          refine T_seq ?_
          refine T_block ?_
          refine T_seq ?_
          refine T_region ?_
          refine TL_pure rfl rfl rfl rfl (op_move rfl) ?_
          refine TL_pure rfl rfl rfl rfl (op_move rfl) ?_
          obtain ⟨r32, hr32, hm⟩ := bindS hm
          refine TL_callF (hrec_impl_behindProof p0 s0.1 r32 hr32) Try.call51 rfl rfl rfl rfl rfl ?_
          refine TL_pure rfl rfl rfl rfl (op_move rfl) ?_
          refine TL_pure rfl rfl rfl rfl (op_extract rfl rfl) ?_
          refine TL_pure rfl rfl rfl rfl (op_extract rfl rfl) ?_
          refine TL_pure rfl rfl rfl rfl (op_extract rfl rfl) ?_
          refine TL_pure rfl rfl rfl rfl (op_assign rfl) ?_
          refine TL_pure rfl rfl rfl rfl (op_assign rfl) ?_
          refine TL_pure rfl rfl rfl rfl (op_assign rfl) ?_
          refine TL_nil ?_
          refine T_seq ?_
          refine T_seq ?_
          refine T_region ?_
          refine TL_pure rfl rfl rfl rfl (op_move rfl) ?_
          refine TL_pure rfl rfl rfl rfl (op_not rfl) ?_
          refine TL_nil ?_
          refine T_cond rfl (fun hq => ?_) (fun hq => ?_)
          · replace hm := condT hq hm
            refine T_seq ?_
            refine T_region ?_
            refine TL_pure rfl rfl rfl rfl (op_assign rfl) ?_
            refine TL_pure rfl rfl rfl rfl (op_assign rfl) ?_
            refine TL_pure rfl rfl rfl rfl (op_assign rfl) ?_
            refine TL_nil ?_
            refine T_keepH [4, 5, 6] [] rfl rfl rfl rfl (by rw [hF]; rfl) ?_
            refine T_ret ?_
            obtain rfl := someI hm
            have hn := CtlOK_out hc0
            exact hx0 (.inr ((0 : Int), (0 : Int), false)) hn
          · replace hm := condF hq hm
            refine T_skip ?_
            refine T_seq ?_
            refine T_region ?_
            refine TL_pure rfl rfl rfl rfl (op_move rfl) ?_
            refine TL_pure rfl rfl rfl rfl (op_move rfl) ?_
            refine TL_pure rfl rfl rfl rfl (op_max rfl rfl) ?_
            refine TL_pure rfl rfl rfl rfl (op_assign rfl) ?_
            refine TL_nil ?_
            refine T_region ?_
            refine TL_pure rfl rfl rfl rfl (op_move rfl) ?_
            refine TL_pure rfl rfl rfl rfl (op_assign rfl) ?_
            refine TL_nil ?_
            refine T_region ?_
            refine TL_pure rfl rfl rfl rfl (op_move rfl) ?_
            refine TL_pure rfl rfl rfl rfl (op_subW rfl rfl) ?_
            refine TL_pure rfl rfl rfl rfl (op_assign rfl) ?_
            refine TL_nil ?_
            refine TR_keepH [0, 1, 7, 8] [] rfl rfl rfl rfl (by rw [hF]; rfl) ?_
            obtain rfl := someI hm
            have hn := CtlOK_next hc0
            exact hn _ rfl
        · replace hm := condF hq hm
          refine T_keepH [1, 8] [] rfl rfl rfl rfl (by rw [hF]; rfl) ?_
          refine T_exit ?_
          obtain rfl := someI hm
          have hn := CtlOK_out hc0
          exact hx0 (.inl (s0.1, s0.2.2)) hn
theorem c_impl_behindProof : ∀ (n : Nat) (p0 : List Node) (p1 : Int) (out : Int × Int × Bool), m_impl_behindProof n p0 p1 = some out → ACall Try.prog 51 [.sl 5 (List.map a_Node p0), .int .i64 p1] [] (.tup [.int .i64 out.1, .int .i64 out.2.1, .bool out.2.2]) [] := by
  intro n
  induction n with
  | zero => intro p0 p1 out hm; cases hm
  | succ n ih => intro p0 p1 out hm; exact c_impl_behindProof_F (m_impl_behindProof n) ih p0 p1 out hm
theorem c_impl_IsProof (p0 : List Node) (out : Bool) (hm : m_impl_IsProof p0 = some out) : ACall Try.prog 32 [.sl 5 (List.map a_Node p0)] [] (.bool out) [] := by
  refine ACall.intro Try.func32 rfl Try.ntmps32 rfl (fun F hF => ?_)
  unfold m_impl_IsProof at hm
  refine T_seq ?_
  refine T_region ?_
  refine TL_pure rfl rfl rfl rfl (op_assign rfl) ?_
  refine TL_nil ?_
  refine T_seq ?_
  refine T_seq ?_
  refine T_region ?_
  refine TL_pure rfl rfl rfl rfl (op_move rfl) ?_
  refine TL_pure rfl rfl rfl rfl (op_lenT Try.underlying24 rfl (List.length_map _)) ?_
  refine TL_fact (fun _ _ _ hr => RelP.slLen (i := 6) rfl hr) (fun hlen7 => ?_)
  rw [List.length_map] at hlen7
  refine TL_pure rfl rfl rfl rfl (op_gtr rfl rfl) ?_
  refine TL_nil ?_
  refine T_cond rfl (fun hq => ?_) (fun hq => ?_)
  · replace hm := condT hq hm
    refine T_seq ?_
    refine T_region ?_
    refine TL_pure rfl rfl rfl rfl (op_assign rfl) ?_
    refine TL_nil ?_
    refine T_keepH [2] [] rfl rfl rfl rfl (by rw [hF]; rfl) ?_
    refine T_ret ?_
    obtain rfl := someI hm
    refine ⟨[_], [], ⟨rfl, trivial⟩, ?_, rfl, rfl, rfl, rfl⟩
    rfl
  · replace hm := condF hq hm
    refine T_skip ?_
    refine T_seq ?_
    refine T_region ?_
    refine TL_pure rfl rfl rfl rfl (op_move rfl) ?_
    obtain ⟨r11, hr11, hm⟩ := bindS hm
    refine TL_callF (c_impl_behindProof 1000 p0 (0 : Int) r11 hr11) Try.call51 rfl rfl rfl rfl rfl ?_
    refine TL_pure rfl rfl rfl rfl (op_move rfl) ?_
    refine TL_pure rfl rfl rfl rfl (op_extract rfl rfl) ?_
    refine TL_pure rfl rfl rfl rfl (op_extract rfl rfl) ?_
    refine TL_pure rfl rfl rfl rfl (op_extract rfl rfl) ?_
    refine TL_pure rfl rfl rfl rfl (op_assign rfl) ?_
    refine TL_pure rfl rfl rfl rfl (op_assign rfl) ?_
    refine TL_pure rfl rfl rfl rfl (op_assign rfl) ?_
    refine TL_nil ?_
    refine T_seq ?_
    refine T_region ?_
    refine TL_pure rfl rfl rfl rfl (op_move rfl) ?_
    refine TL_pure rfl rfl rfl rfl (op_move rfl) ?_
    refine TL_join 5 (fun _ : Unit => ⟨[(21, .bool (r11.2.2 && (decide (r11.1 = (p0.length : Int)))))], []⟩) (fun _ => True) (fun _ _ => ?_) (fun hjj => ?_)
    · refine TL_pure rfl rfl rfl rfl (op_assign rfl) ?_
      refine TL_nil ?_
      refine T_keepH [2] [] rfl rfl rfl rfl (by rw [hF]; rfl) ?_
      refine T_ret ?_
      obtain rfl := someI hm
      refine ⟨[_], [], ⟨rfl, trivial⟩, ?_, rfl, rfl, rfl, rfl⟩
      rfl
    · refine TL_split 16 rfl rfl rfl (fun hq => ?_) (fun hq => ?_)
      · refine TL_want rfl rfl ?_
        refine TL_pure rfl rfl rfl rfl (op_move rfl) ?_
        refine TL_want rfl rfl ?_
        refine TL_pure rfl rfl rfl rfl (op_move rfl) ?_
        refine TL_want rfl rfl ?_
        refine TL_pure rfl rfl rfl rfl (op_lenT Try.underlying24 rfl (List.length_map _)) ?_
        refine TL_want rfl rfl ?_
        refine TL_pure rfl rfl rfl rfl (op_eql rfl rfl) ?_
        refine TL_pure rfl rfl rfl rfl (op_pick_true rfl rfl) ?_
        refine TL_keepH [21] [] rfl rfl rfl rfl (by rw [hF]; rfl) ?_
        exact TL_cast _ (by first | (rw [hq, Bool.true_and]; done) | (rw [hq]; rfl)) (hjj () trivial)
      · refine TL_pass rfl rfl rfl rfl rfl rfl rfl ?_
        refine TL_pass rfl rfl rfl rfl rfl rfl rfl ?_
        refine TL_pass rfl rfl rfl rfl rfl rfl rfl ?_
        refine TL_pass rfl rfl rfl rfl rfl rfl rfl ?_
        refine TL_pure rfl rfl rfl rfl (op_pick_false rfl rfl) ?_
        refine TL_keepH [21] [] rfl rfl rfl rfl (by rw [hF]; rfl) ?_
        exact TL_cast _ (by first | (rw [hq, Bool.false_and]; done) | (rw [hq]; rfl)) (hjj () trivial)
theorem c_impl_closes (p0 : List Term) (p1 : List Int) (out : Bool) (hm : m_impl_closes p0 p1 = some out) : ACall Try.prog 65 [.sl 2 (List.map a_Term p0), .sl 1 (List.map a_i64 p1)] [] (.bool out) [] := by
  refine ACall.intro Try.func65 rfl Try.ntmps65 rfl (fun F hF => ?_)
  unfold m_impl_closes at hm
  refine T_seq ?_
  refine T_region ?_
  refine TL_pure rfl rfl rfl rfl (op_assign rfl) ?_
  refine TL_nil ?_
  refine T_seq ?_
  refine T_seq ?_
  refine T_region ?_
  refine TL_pure rfl rfl rfl rfl (op_move rfl) ?_
  refine TL_pure rfl rfl rfl rfl (op_lenT Try.underlying32 rfl (List.length_map _)) ?_
  refine TL_fact (fun _ _ _ hr => RelP.slLen (i := 6) rfl hr) (fun hlen7 => ?_)
  rw [List.length_map] at hlen7
  refine TL_pure rfl rfl rfl rfl (op_move rfl) ?_
  refine TL_pure rfl rfl rfl rfl (op_lenT Try.underlying39 rfl (List.length_map _)) ?_
  refine TL_fact (fun _ _ _ hr => RelP.slLen (i := 8) rfl hr) (fun hlen9 => ?_)
  rw [List.length_map] at hlen9
  refine TL_pure rfl rfl rfl rfl (op_neq rfl rfl) ?_
  refine TL_nil ?_
  refine T_cond rfl (fun hq => ?_) (fun hq => ?_)
  · replace hm := condT hq hm
    refine T_seq ?_
    refine T_region ?_
    refine TL_pure rfl rfl rfl rfl (op_assign rfl) ?_
    refine TL_nil ?_
    refine T_keepH [4] [] rfl rfl rfl rfl (by rw [hF]; rfl) ?_
    refine T_ret ?_
    obtain rfl := someI hm
    refine ⟨[_], [], ⟨rfl, trivial⟩, ?_, rfl, rfl, rfl, rfl⟩
    rfl
  · replace hm := condF hq hm
    refine T_skip ?_
    refine T_seq ?_
    refine T_region ?_
    refine TL_pure rfl rfl rfl rfl (op_move rfl) ?_
    refine TL_pure rfl rfl rfl rfl (op_move rfl) ?_
    obtain ⟨r13, hr13, hm⟩ := bindS hm
    refine TL_callO [(1000, 11)] (c_impl_combined p0 p1 r13 hr13) Try.call80 rfl rfl rfl rfl rfl rfl rfl rfl rfl rfl rfl rfl rfl ?_
    refine TL_alloc 12 z40 rfl rfl rfl rfl rfl rfl rfl ?_
    refine TL_store_box sz40 rfl rfl rfl rfl rfl rfl rfl rfl rfl ?_
    refine TL_nil ?_
    refine T_seq ?_
    refine T_region ?_
    refine TL_pure rfl rfl rfl rfl (op_fieldAddr fa40_1 rfl rfl) ?_
    refine TL_pure rfl rfl rfl rfl (op_load_one ag32 rfl rfl) ?_
    refine TL_pure rfl rfl rfl rfl (op_lenO Try.underlying32 rfl rfl (List.length_map _)) ?_
    refine TL_fact (fun _ _ _ hr => RelP.owLen (id := 11) rfl hr) (fun hlen16 => ?_)
    rw [List.length_map] at hlen16
    refine TL_pure rfl rfl rfl rfl (op_eql rfl rfl) ?_
    refine TL_pure rfl rfl rfl rfl (op_move rfl) ?_
    refine TL_join 4 (fun _ : Unit => ⟨[(22, .bool ((decide ((r13.Coeffs.length : Int) = (0 : Int))) && (decide (r13.Const < (0 : Int)))))], []⟩) (fun _ => True) (fun _ _ => ?_) (fun hjj => ?_)
    · refine TL_pure rfl rfl rfl rfl (op_assign rfl) ?_
      refine TL_nil ?_
      refine T_keepH [4] [] rfl rfl rfl rfl (by rw [hF]; rfl) ?_
      refine T_ret ?_
      obtain rfl := someI hm
      refine ⟨[_], [], ⟨rfl, trivial⟩, ?_, rfl, rfl, rfl, rfl⟩
      rfl
    · refine TL_split 18 rfl rfl rfl (fun hq => ?_) (fun hq => ?_)
      · refine TL_want rfl rfl ?_
        refine TL_pure rfl rfl rfl rfl (op_fieldAddr fa40_0 rfl rfl) ?_
        refine TL_want rfl rfl ?_
        refine TL_pure rfl rfl rfl rfl (op_load_one ag2 rfl rfl) ?_
        refine TL_want rfl rfl ?_
        refine TL_pure rfl rfl rfl rfl (op_lss rfl rfl) ?_
        refine TL_pure rfl rfl rfl rfl (op_pick_true rfl rfl) ?_
        refine TL_keepH [22] [] rfl rfl rfl rfl (by rw [hF]; rfl) ?_
        exact TL_cast _ (by first | (rw [hq, Bool.true_and]; done) | (rw [hq]; rfl)) (hjj () trivial)
      · refine TL_pass rfl rfl rfl rfl rfl rfl rfl ?_
        refine TL_pass rfl rfl rfl rfl rfl rfl rfl ?_
        refine TL_pass rfl rfl rfl rfl rfl rfl rfl ?_
        refine TL_pure rfl rfl rfl rfl (op_pick_false rfl rfl) ?_
        refine TL_keepH [22] [] rfl rfl rfl rfl (by rw [hF]; rfl) ?_
        exact TL_cast _ (by first | (rw [hq, Bool.false_and]; done) | (rw [hq]; rfl)) (hjj () trivial)
theorem c_slices_Clone_impl_Term_impl_Term (p0 : List Term) (out : List Term) (hm : m_slices_Clone_impl_Term_impl_Term p0 = some out) : ACall Try.prog 123 [.sl 2 (List.map a_Term p0)] [] (.ow 1000) [(1000, .arr ⟨false, false⟩ 2 40 (List.map a_Term out))] := by
  refine ACall.intro Try.func123 rfl Try.ntmps123 rfl (fun F hF => ?_)
  unfold m_slices_Clone_impl_Term_impl_Term at hm
  refine T_seq ?_
  refine T_region ?_
  refine TL_pure rfl rfl rfl rfl (op_assign rfl) ?_
  refine TL_nil ?_
  refine T_seq ?_
  refine T_seq ?_
  refine T_region ?_
  refine TL_pure rfl rfl rfl rfl (op_move rfl) ?_
  refine TL_eqNil Try.underlying39 rfl rfl rfl rfl rfl (fun hE => ?_) ?_
  · have hE := List.map_eq_nil_iff.1 hE
    rw [hE] at hm
    replace hm : some ([] : List Term) = some out := hm
    refine TL_nil ?_
    refine T_cond_true rfl ?_
    refine T_seq ?_
    refine T_region ?_
    refine TL_pure rfl rfl rfl rfl (op_assign rfl) ?_
    refine TL_nil ?_
    refine T_ownNil 2 11 ⟨false, false⟩ 40 rfl rfl (sz := 2) rfl rfl rfl ?_
    refine T_keepH [2] [11] rfl rfl rfl rfl (by rw [hF]; rfl) ?_
    refine T_ren [(11, 1000)] rfl rfl rfl (by rw [hF]; rfl) ?_
    refine T_ret ?_
    obtain rfl := someI hm
    refine ⟨[_], [1000], ⟨rfl, trivial⟩, ?_, rfl, rfl, rfl, rfl⟩
    rfl
  · refine TL_nil ?_
    refine T_cond_false rfl ?_
    refine T_skip ?_
    refine T_seq ?_
    refine T_region ?_
    refine TL_buildSlice 12 (es := List.map a_Term ([] : List Term)) el39 z40 rfl rfl rfl rfl rfl rfl rfl rfl rfl ?_
    refine TL_pure rfl rfl rfl rfl (op_move rfl) ?_
    obtain ⟨q7, hq7, hm⟩ := bindS hm
    refine TL_appendT (f := a_Term) (a := ([] : List Term)) (b := p0) el39 z40 rfl rfl rfl rfl rfl rfl rfl (capI_spec hq7) rfl rfl rfl rfl rfl ?_
    refine TL_pure rfl rfl rfl rfl (op_assign rfl) ?_
    refine TL_nil ?_
    refine T_keepH [2] [12] rfl rfl rfl rfl (by rw [hF]; rfl) ?_
    refine T_ren [(12, 1000)] rfl rfl rfl (by rw [hF]; rfl) ?_
    refine T_ret ?_
    obtain rfl := someI hm
    refine ⟨[_], [1000], ⟨rfl, trivial⟩, ?_, rfl, rfl, rfl, rfl⟩
    rfl
theorem c_impl_with (p0 : List Term) (p1 : Term) (out : List Term) (hm : m_impl_with p0 p1 = some out) : ACall Try.prog 83 [.sl 2 (List.map a_Term p0), .agg [.int .i64 p1.Const, .sl 1 (List.map a_i64 p1.Coeffs)]] [] (.sl 2 (List.map a_Term out)) [] := by
  refine ACall.intro Try.func83 rfl Try.ntmps83 rfl (fun F hF => ?_)
  unfold m_impl_with at hm
  refine T_seq ?_
  refine T_region ?_
  refine TL_box 11 rfl rfl rfl rfl rfl rfl rfl ?_
  refine TL_pure rfl rfl rfl rfl (op_assign rfl) ?_
  refine TL_nil ?_
  refine T_seq ?_
  refine T_drawZ [3, 4] mix (by kernel_rfl) rfl ?_
  obtain ⟨r6, hr6, hm⟩ := bindS hm
  obtain ⟨q9, hq9, hm⟩ := bindS hm
  refine TZ_pure 0 (by kernel_rfl) rfl rfl rfl rfl rfl (op_move rfl) ?_
  refine TZ_cut 4 [true, true, false, false, false, false] ⟨[(0, .sl 2 (List.map a_Term p0)), (1, .agg [.int .i64 p1.Const, .sl 1 (List.map a_i64 p1.Coeffs)]), (3, .ptr 11 0 0), (4, .snil), (5, .sl 2 (List.map a_Term p0)), (6, .ow 172)], [(11, .box [.int .i64 p1.Const, .sl 1 (List.map a_i64 p1.Coeffs)]), (172, .arr ⟨false, false⟩ 2 40 (List.map a_Term r6))]⟩ ?_ (fun hS11_0 => ?_)
  · refine TZ_one 2 (by kernel_rfl) rfl ?_
    refine TL_pure rfl rfl rfl rfl (op_load_agg ag40 sz40 rfl rfl rfl) ?_
    refine TL_nil ?_
    refine TZ_one 3 (by kernel_rfl) rfl ?_
    refine TL_buildSlice 332 (es := List.map a_Term [p1]) el39 z40 rfl rfl rfl rfl rfl rfl rfl rfl rfl ?_
    refine TL_nil ?_
    refine TZ_one 4 (by kernel_rfl) rfl ?_
    refine TL_appendT (f := a_Term) (a := r6) (b := [p1]) el39 z40 rfl rfl rfl rfl rfl rfl rfl (capI_spec hq9) rfl rfl rfl rfl rfl ?_
    refine TL_nil ?_
    refine TZ_pure 5 (by kernel_rfl) rfl rfl rfl rfl rfl (op_assign rfl) ?_
    refine TZ_done (by kernel_rfl) ?_
    refine T_keepH [4] [172] rfl rfl rfl rfl (by rw [hF]; rfl) ?_
    refine T_freeze 172 (by rw [hF]; rfl) rfl rfl rfl ?_
    refine T_ret ?_
    obtain rfl := someI hm
    refine ⟨[_], [], ⟨rfl, trivial⟩, ?_, rfl, rfl, rfl, rfl⟩
    rfl
  refine TZ_cut 3 [true, true, true, false, false, false] ⟨[(0, .sl 2 (List.map a_Term p0)), (1, .agg [.int .i64 p1.Const, .sl 1 (List.map a_i64 p1.Coeffs)]), (3, .ptr 11 0 0), (4, .snil), (5, .sl 2 (List.map a_Term p0)), (6, .ow 172), (7, .agg [.int .i64 p1.Const, .sl 1 (List.map a_i64 p1.Coeffs)])], [(11, .box [.int .i64 p1.Const, .sl 1 (List.map a_i64 p1.Coeffs)]), (172, .arr ⟨false, false⟩ 2 40 (List.map a_Term r6))]⟩ ?_ (fun hS11_1 => ?_)
  · refine TZ_one 3 (by kernel_rfl) rfl ?_
    refine TL_buildSlice 332 (es := List.map a_Term [p1]) el39 z40 rfl rfl rfl rfl rfl rfl rfl rfl rfl ?_
    refine TL_nil ?_
    refine TZ_one 4 (by kernel_rfl) rfl ?_
    refine TL_appendT (f := a_Term) (a := r6) (b := [p1]) el39 z40 rfl rfl rfl rfl rfl rfl rfl (capI_spec hq9) rfl rfl rfl rfl rfl ?_
    refine TL_nil ?_
    refine TZ_pure 5 (by kernel_rfl) rfl rfl rfl rfl rfl (op_assign rfl) ?_
    refine TZ_done (by kernel_rfl) ?_
    refine T_keepH [4] [172] rfl rfl rfl rfl (by rw [hF]; rfl) ?_
    refine T_freeze 172 (by rw [hF]; rfl) rfl rfl rfl ?_
    refine T_ret ?_
    obtain rfl := someI hm
    refine ⟨[_], [], ⟨rfl, trivial⟩, ?_, rfl, rfl, rfl, rfl⟩
    rfl
  refine TZ_cut 3 [true, false, true, true, false, false] ⟨[(0, .sl 2 (List.map a_Term p0)), (1, .agg [.int .i64 p1.Const, .sl 1 (List.map a_i64 p1.Coeffs)]), (3, .ptr 11 0 0), (4, .snil), (5, .sl 2 (List.map a_Term p0)), (7, .agg [.int .i64 p1.Const, .sl 1 (List.map a_i64 p1.Coeffs)]), (8, .ow 332)], [(11, .box [.int .i64 p1.Const, .sl 1 (List.map a_i64 p1.Coeffs)]), (332, .arr ⟨false, false⟩ 2 40 (List.map a_Term [p1]))]⟩ ?_ (fun hS11_2 => ?_)
  · refine TZ_one 1 (by kernel_rfl) rfl ?_
    refine TLE_call [] [(1000, 172)] [] (c_slices_Clone_impl_Term_impl_Term p0 r6 hr6) (fun _ => rfl) Try.call123 rfl rfl rfl rfl rfl trivial rfl rfl rfl rfl rfl rfl rfl rfl rfl rfl rfl ?_
    refine TL_nil ?_
    refine TZ_one 4 (by kernel_rfl) rfl ?_
    refine TL_appendT (f := a_Term) (a := r6) (b := [p1]) el39 z40 rfl rfl rfl rfl rfl rfl rfl (capI_spec hq9) rfl rfl rfl rfl rfl ?_
    refine TL_nil ?_
    refine TZ_pure 5 (by kernel_rfl) rfl rfl rfl rfl rfl (op_assign rfl) ?_
    refine TZ_done (by kernel_rfl) ?_
    refine T_keepH [4] [172] rfl rfl rfl rfl (by rw [hF]; rfl) ?_
    refine T_freeze 172 (by rw [hF]; rfl) rfl rfl rfl ?_
    refine T_ret ?_
    obtain rfl := someI hm
    refine ⟨[_], [], ⟨rfl, trivial⟩, ?_, rfl, rfl, rfl, rfl⟩
    rfl
  refine TZ_cut 4 [true, false, true, false, false, false] ⟨[(0, .sl 2 (List.map a_Term p0)), (1, .agg [.int .i64 p1.Const, .sl 1 (List.map a_i64 p1.Coeffs)]), (3, .ptr 11 0 0), (4, .snil), (5, .sl 2 (List.map a_Term p0)), (7, .agg [.int .i64 p1.Const, .sl 1 (List.map a_i64 p1.Coeffs)])], [(11, .box [.int .i64 p1.Const, .sl 1 (List.map a_i64 p1.Coeffs)])]⟩ ?_ (fun hS11_3 => ?_)
  · refine TZ_each [1, 3] (by kernel_rfl) rfl ?_
    refine ⟨?_, ?_⟩
    · refine ⟨_, rfl, ?_⟩
      refine TLE_call [] [(1000, 172)] [] (c_slices_Clone_impl_Term_impl_Term p0 r6 hr6) (fun _ => rfl) Try.call123 rfl rfl rfl rfl rfl trivial rfl rfl rfl rfl rfl rfl rfl rfl rfl rfl rfl ?_
      refine TL_nil ?_
      refine TZ_keepH [0, 1, 3, 4, 5, 6, 7] [11, 172] rfl rfl rfl rfl (by rw [hF]; rfl) ?_
      exact hS11_1
    · refine ⟨_, rfl, ?_⟩
      refine TL_buildSlice 332 (es := List.map a_Term [p1]) el39 z40 rfl rfl rfl rfl rfl rfl rfl rfl rfl ?_
      refine TL_nil ?_
      refine TZ_keepH [0, 1, 3, 4, 5, 7, 8] [11, 332] rfl rfl rfl rfl (by rw [hF]; rfl) ?_
      exact hS11_2
  refine TZ_each [1, 2] (by kernel_rfl) rfl ?_
  refine ⟨?_, ?_⟩
  · refine ⟨_, rfl, ?_⟩
    refine TLE_call [] [(1000, 172)] [] (c_slices_Clone_impl_Term_impl_Term p0 r6 hr6) (fun _ => rfl) Try.call123 rfl rfl rfl rfl rfl trivial rfl rfl rfl rfl rfl rfl rfl rfl rfl rfl rfl ?_
    refine TL_nil ?_
    refine TZ_keepH [0, 1, 3, 4, 5, 6] [11, 172] rfl rfl rfl rfl (by rw [hF]; rfl) ?_
    exact hS11_0
  · refine ⟨_, rfl, ?_⟩
    refine TL_pure rfl rfl rfl rfl (op_load_agg ag40 sz40 rfl rfl rfl) ?_
    refine TL_nil ?_
    refine TZ_keepH [0, 1, 3, 4, 5, 7] [11] rfl rfl rfl rfl (by rw [hF]; rfl) ?_
    exact hS11_3
theorem c_impl_size (p0 : Int) (out : Int) (hm : m_impl_size p0 = some out) : ACall Try.prog 104 [.int .i64 p0] [] (.int .i64 out) [] := by
  refine ACall.intro Try.func104 rfl Try.ntmps104 rfl (fun F hF => ?_)
  unfold m_impl_size at hm
  refine T_seq ?_
  refine T_region ?_
  refine TL_pure rfl rfl rfl rfl (op_assign rfl) ?_
  refine TL_nil ?_
  refine T_seq ?_
  refine T_region ?_
  refine TL_pure rfl rfl rfl rfl (op_move rfl) ?_
  refine TL_pure rfl rfl rfl rfl (op_assign rfl) ?_
  refine TL_nil ?_
  refine T_keepH [2] [] rfl rfl rfl rfl (by rw [hF]; rfl) ?_
  refine T_ret ?_
  obtain rfl := someI hm
  refine ⟨[_], [], ⟨rfl, trivial⟩, ?_, rfl, rfl, rfl, rfl⟩
  rfl
theorem c_impl_isIndex (p0 : Int) (p1 : Int) (out : Bool) (hm : m_impl_isIndex p0 p1 = some out) : ACall Try.prog 50 [.int .i64 p0, .int .i64 p1] [] (.bool out) [] := by
  refine ACall.intro Try.func50 rfl Try.ntmps50 rfl (fun F hF => ?_)
  unfold m_impl_isIndex at hm
  refine T_seq ?_
  refine T_region ?_
  refine TL_pure rfl rfl rfl rfl (op_assign rfl) ?_
  refine TL_nil ?_
  refine T_seq ?_
  refine T_region ?_
  refine TL_pure rfl rfl rfl rfl (op_move rfl) ?_
  refine TL_pure rfl rfl rfl rfl (op_move rfl) ?_
  obtain ⟨r7, hr7, hm⟩ := bindS hm
  refine TL_callF (c_impl_size p1 r7 hr7) Try.call104 rfl rfl rfl rfl rfl ?_
  refine TL_pure rfl rfl rfl rfl (op_subW rfl rfl) ?_
  obtain ⟨r9, hr9, hm⟩ := bindS hm
  refine TL_callF (c_impl_within p0 (0 : Int) (w64 (r7 - (1 : Int))) r9 hr9) Try.call103 rfl rfl rfl rfl rfl ?_
  refine TL_pure rfl rfl rfl rfl (op_assign rfl) ?_
  refine TL_nil ?_
  refine T_keepH [4] [] rfl rfl rfl rfl (by rw [hF]; rfl) ?_
  refine T_ret ?_
  obtain rfl := someI hm
  refine ⟨[_], [], ⟨rfl, trivial⟩, ?_, rfl, rfl, rfl, rfl⟩
  rfl
theorem c_impl_absolute (p0 : Int) (out : Int) (hm : m_impl_absolute p0 = some out) : ACall Try.prog 139 [.int .i64 p0] [] (.int .i64 out) [] := by
  refine ACall.intro Try.func139 rfl Try.ntmps139 rfl (fun F hF => ?_)
  unfold m_impl_absolute at hm
  refine T_seq ?_
  refine T_region ?_
  refine TL_pure rfl rfl rfl rfl (op_assign rfl) ?_
  refine TL_nil ?_
  refine T_seq ?_
  refine T_region ?_
  refine TL_pure rfl rfl rfl rfl (op_move rfl) ?_
  refine TL_pure rfl rfl rfl rfl (op_move rfl) ?_
  refine TL_pure rfl rfl rfl rfl (op_negW rfl) ?_
  refine TL_pure rfl rfl rfl rfl (op_max rfl rfl) ?_
  refine TL_pure rfl rfl rfl rfl (op_assign rfl) ?_
  refine TL_nil ?_
  refine T_keepH [2] [] rfl rfl rfl rfl (by rw [hF]; rfl) ?_
  refine T_ret ?_
  obtain rfl := someI hm
  refine ⟨[_], [], ⟨rfl, trivial⟩, ?_, rfl, rfl, rfl, rfl⟩
  rfl
theorem c_impl_gcd (p0 : List Int) (out : Int) (hm : m_impl_gcd p0 = some out) : ACall Try.prog 136 [.sl 1 (List.map a_i64 p0)] [] (.int .i64 out) [] := by
  refine ACall.intro Try.func136 rfl Try.ntmps136 rfl (fun F hF => ?_)
  unfold m_impl_gcd at hm
  refine T_seq ?_
  refine T_region ?_
  refine TL_pure rfl rfl rfl rfl (op_assign rfl) ?_
  refine TL_nil ?_
  refine T_seq ?_
  refine T_region ?_
  refine TL_pure rfl rfl rfl rfl (op_assign rfl) ?_
  refine TL_nil ?_
  refine T_seq ?_
  refine T_seq ?_
  refine T_region ?_
  refine TL_pure rfl rfl rfl rfl (op_move rfl) ?_
  refine TL_pure rfl rfl rfl rfl (op_lenT Try.underlying32 rfl (List.length_map _)) ?_
  refine TL_fact (fun _ _ _ hr => RelP.slLen (i := 8) rfl hr) (fun hlen9 => ?_)
  rw [List.length_map] at hlen9
  refine TL_pure rfl rfl rfl rfl (op_move rfl) ?_
  refine TL_nil ?_
  refine T_block ?_
  refine T_keepH [3, 8, 9, 10] [] rfl rfl rfl rfl (by rw [hF]; rfl) ?_
  refine T_loop ?_
  obtain ⟨u0, hl0, hm⟩ := bindS hm
  refine TR_forL2 p0 (m_impl_gcd_L0) (fun (s0 : Int) => s0) (fun n0 (s0 : Int) => ⟨[(3, .int .i64 s0), (8, .sl 1 (List.map a_i64 p0)), (9, .int .i64 (p0.length : Int)), (10, .int .i64 (n0 : Int))], []⟩) (fun u0 => .exit 0) (fun u0 => ⟨[(3, .int .i64 u0)], []⟩) (fun u0 => m_impl_gcd_A0 u0 = some out) hl0 hm (fun u0 hm => ?_) (fun hx0 s0 hm => ?_) (fun hx0 n0 x0 s0 c0 hxn0 hlt0 hm hc0 => ?_)
  · unfold m_impl_gcd_A0 at hm
    refine T_seq ?_
    refine T_region ?_
    refine TL_pure rfl rfl rfl rfl (op_move rfl) ?_
    refine TL_pure rfl rfl rfl rfl (op_assign rfl) ?_
    refine TL_nil ?_
    refine T_keepH [2] [] rfl rfl rfl rfl (by rw [hF]; rfl) ?_
    refine T_ret ?_
    obtain rfl := someI hm
    refine ⟨[_], [], ⟨rfl, trivial⟩, ?_, rfl, rfl, rfl, rfl⟩
    rfl
  · refine T_seq ?_
    refine T_region ?_
    refine TL_pure rfl rfl rfl rfl (op_lss rfl rfl) ?_
    refine TL_nil ?_
    refine T_seq ?_
    refine T_if_false rfl (decide_eq_false (by simp)) ?_
    refine T_keepH [3] [] rfl rfl rfl rfl (by rw [hF]; rfl) ?_
    refine T_exit ?_
    exact hx0 s0 hm
  · unfold m_impl_gcd_L0 at hm
    refine T_seq ?_
    refine T_region ?_
    refine TL_pure rfl rfl rfl rfl (op_lss rfl rfl) ?_
    refine TL_nil ?_
    refine T_seq ?_
    refine T_if_true rfl (decide_eq_true (Int.ofNat_lt.2 hlt0)) ?_
    refine T_skip ?_
    refine T_seq ?_
    refine T_block ?_
    refine T_seq ?_
    refine T_region ?_
    refine TL_pure rfl rfl rfl rfl (op_index_sl el32 rfl rfl rfl (get_map hxn0) rfl) ?_
    refine TL_pure rfl rfl rfl rfl (op_load_one ag2 rfl rfl) ?_
    refine TL_pure rfl rfl rfl rfl (op_assign rfl) ?_
    refine TL_nil ?_
    refine T_seq ?_
    refine T_region ?_
    refine TL_pure rfl rfl rfl rfl (op_move rfl) ?_
    refine TL_pure rfl rfl rfl rfl (op_move rfl) ?_
    obtain ⟨r16, hr16, hm⟩ := bindS hm
    refine TL_callF (c_impl_absolute x0 r16 hr16) Try.call139 rfl rfl rfl rfl rfl ?_
    refine TL_pure rfl rfl rfl rfl (op_assign rfl) ?_
    refine TL_pure rfl rfl rfl rfl (op_assign rfl) ?_
    refine TL_nil ?_
    refine T_seq ?_
    refine T_block ?_
    refine T_keepH [6, 7, 8, 9, 10] [] rfl rfl rfl rfl (by rw [hF]; rfl) ?_
    refine T_loop ?_
    obtain ⟨u1, hl1, hm⟩ := bindS hm
    refine TR_iter2 (m_impl_gcd_L1) (fun (s1 : Int × Int) => ⟨[(6, .int .i64 s1.1), (7, .int .i64 s1.2), (8, .sl 1 (List.map a_i64 p0)), (9, .int .i64 (p0.length : Int)), (10, .int .i64 (n0 : Int))], []⟩) (fun u1 => .exit 2) (fun u1 => ⟨[(6, .int .i64 u1), (8, .sl 1 (List.map a_i64 p0)), (9, .int .i64 (p0.length : Int)), (10, .int .i64 (n0 : Int))], []⟩) (fun u1 => m_impl_gcd_A1 u1 = some c0) hl1 hm (fun u1 hm => ?_) (fun hx1 s1 c1 hm hc1 => ?_)
    · unfold m_impl_gcd_A1 at hm
      refine T_region ?_
      refine TL_pure rfl rfl rfl rfl (op_move rfl) ?_
      refine TL_pure rfl rfl rfl rfl (op_assign rfl) ?_
      refine TL_nil ?_
      refine T_region ?_
      refine TL_pure rfl rfl rfl rfl (op_addN rfl rfl (Nat.lt_of_lt_of_le hlt0 hlen9)) ?_
      refine TL_pure rfl rfl rfl rfl (op_move rfl) ?_
      refine TL_nil ?_
      refine TR_keepH [3, 8, 9, 10] [] rfl rfl rfl rfl (by rw [hF]; rfl) ?_
      obtain rfl := someI hm
      have hn := CtlOK_next hc0
      exact hn _ rfl
    · unfold m_impl_gcd_L1 at hm
      refine T_seq ?_
      refine T_seq ?_
      refine T_region ?_
      refine TL_pure rfl rfl rfl rfl (op_move rfl) ?_
      refine TL_pure rfl rfl rfl rfl (op_neq rfl rfl) ?_
      refine TL_nil ?_
      refine T_cond rfl (fun hq => ?_) (fun hq => ?_)
      · replace hm := condT hq hm
        refine T_skip ?_
        refine T_block ?_
        refine T_drawZ [] mix (by kernel_rfl) rfl ?_
        obtain ⟨q22, hq22, hm⟩ := bindS hm
        refine TZ_pure 0 (by kernel_rfl) rfl rfl rfl rfl rfl (op_move rfl) ?_
        refine TZ_pure 1 (by kernel_rfl) rfl rfl rfl rfl rfl (op_move rfl) ?_
        refine TZ_pure 2 (by kernel_rfl) rfl rfl rfl rfl rfl (op_move rfl) ?_
        refine TZ_pure 3 (by kernel_rfl) rfl rfl rfl rfl rfl (op_remT rfl rfl hq22) ?_
        refine TZ_pure 4 (by kernel_rfl) rfl rfl rfl rfl rfl (op_assign rfl) ?_
        refine TZ_pure 5 (by kernel_rfl) rfl rfl rfl rfl rfl (op_assign rfl) ?_
        refine TZ_done (by kernel_rfl) ?_
        refine TR_keepH [6, 7, 8, 9, 10] [] rfl rfl rfl rfl (by rw [hF]; rfl) ?_
        obtain rfl := someI hm
        have hn := CtlOK_next hc1
        exact hn _ rfl
      · replace hm := condF hq hm
        refine T_keepH [6, 8, 9, 10] [] rfl rfl rfl rfl (by rw [hF]; rfl) ?_
        refine T_exit ?_
        obtain rfl := someI hm
        have hn := CtlOK_out hc1
        exact hx1 s1.1 hn
theorem c_impl_divFloor (p0 : Int) (p1 : Int) (out : Int) (hm : m_impl_divFloor p0 p1 = some out) : ACall Try.prog 137 [.int .i64 p0, .int .i64 p1] [] (.int .i64 out) [] := by
  refine ACall.intro Try.func137 rfl Try.ntmps137 rfl (fun F hF => ?_)
  unfold m_impl_divFloor at hm
  refine T_seq ?_
  refine T_region ?_
  refine TL_pure rfl rfl rfl rfl (op_assign rfl) ?_
  refine TL_nil ?_
  refine T_seq ?_
  refine T_region ?_
  refine TL_pure rfl rfl rfl rfl (op_move rfl) ?_
  refine TL_pure rfl rfl rfl rfl (op_move rfl) ?_
  obtain ⟨q8, hq8, hm⟩ := bindS hm
  refine TL_pure rfl rfl rfl rfl (op_quoT rfl rfl hq8) ?_
  refine TL_pure rfl rfl rfl rfl (op_assign rfl) ?_
  refine TL_nil ?_
  refine T_seq ?_
  refine T_seq ?_
  refine T_region ?_
  refine TL_pure rfl rfl rfl rfl (op_move rfl) ?_
  refine TL_pure rfl rfl rfl rfl (op_move rfl) ?_
  obtain ⟨q11, hq11, hm⟩ := bindS hm
  refine TL_pure rfl rfl rfl rfl (op_remT rfl rfl hq11) ?_
  refine TL_pure rfl rfl rfl rfl (op_lss rfl rfl) ?_
  refine TL_nil ?_
  refine T_cond rfl (fun hq => ?_) (fun hq => ?_)
  · replace hm := condT hq hm
    refine T_region ?_
    refine TL_pure rfl rfl rfl rfl (op_move rfl) ?_
    refine TL_pure rfl rfl rfl rfl (op_subW rfl rfl) ?_
    refine TL_pure rfl rfl rfl rfl (op_assign rfl) ?_
    refine TL_nil ?_
    refine T_seq ?_
    refine T_region ?_
    refine TL_pure rfl rfl rfl rfl (op_move rfl) ?_
    refine TL_pure rfl rfl rfl rfl (op_assign rfl) ?_
    refine TL_nil ?_
    refine T_keepH [4] [] rfl rfl rfl rfl (by rw [hF]; rfl) ?_
    refine T_ret ?_
    obtain rfl := someI hm
    refine ⟨[_], [], ⟨rfl, trivial⟩, ?_, rfl, rfl, rfl, rfl⟩
    rfl
  · replace hm := condF hq hm
    refine T_skip ?_
    refine T_seq ?_
    refine T_region ?_
    refine TL_pure rfl rfl rfl rfl (op_move rfl) ?_
    refine TL_pure rfl rfl rfl rfl (op_assign rfl) ?_
    refine TL_nil ?_
    refine T_keepH [4] [] rfl rfl rfl rfl (by rw [hF]; rfl) ?_
    refine T_ret ?_
    obtain rfl := someI hm
    refine ⟨[_], [], ⟨rfl, trivial⟩, ?_, rfl, rfl, rfl, rfl⟩
    rfl
theorem c_impl_Term_tightened (p0 : Term) (out : Term × Bool) (hm : m_impl_Term_tightened p0 = some out) : ACall Try.prog 134 [.agg [.int .i64 p0.Const, .sl 1 (List.map a_i64 p0.Coeffs)]] [] (.tup [.agg [.int .i64 out.1.Const, .ow 1000], .bool out.2]) [(1000, .arr ⟨false, true⟩ 1 2 (List.map a_i64 out.1.Coeffs))] := by
  refine ACall.intro Try.func134 rfl Try.ntmps134 rfl (fun F hF => ?_)
  unfold m_impl_Term_tightened at hm
  refine T_seq ?_
  refine T_region ?_
  refine TL_box 11 rfl rfl rfl rfl rfl rfl rfl ?_
  refine TL_alloc 12 z40 rfl rfl rfl rfl rfl rfl rfl ?_
  refine TL_pure rfl rfl rfl rfl (op_assign rfl) ?_
  refine TL_nil ?_
  refine T_seq ?_
  refine T_region ?_
  refine TL_pure rfl rfl rfl rfl (op_fieldAddr fa40_1 rfl rfl) ?_
  refine TL_pure rfl rfl rfl rfl (op_load_one ag32 rfl rfl) ?_
  obtain ⟨r9, hr9, hm⟩ := bindS hm
  refine TL_callF (c_impl_gcd p0.Coeffs r9 hr9) Try.call136 rfl rfl rfl rfl rfl ?_
  refine TL_pure rfl rfl rfl rfl (op_assign rfl) ?_
  refine TL_nil ?_
  refine T_seq ?_
  refine T_seq ?_
  refine T_region ?_
  refine TL_pure rfl rfl rfl rfl (op_move rfl) ?_
  refine TL_pure rfl rfl rfl rfl (op_leq rfl rfl) ?_
  refine TL_nil ?_
  refine T_cond rfl (fun hq => ?_) (fun hq => ?_)
  · replace hm := condT hq hm
    refine T_seq ?_
    refine T_region ?_
    refine TL_pure rfl rfl rfl rfl (op_buildP pl40 z40 rfl rfl rfl rfl rfl) ?_
    refine TL_store_box sz40 rfl rfl rfl rfl rfl rfl rfl rfl rfl ?_
    refine TL_pure rfl rfl rfl rfl (op_assign rfl) ?_
    refine TL_nil ?_
    refine T_ownNilBox 12 1 13 ⟨false, true⟩ 2 rfl rfl rfl (sz := 1) rfl rfl rfl rfl ?_
    refine T_keepH [2, 3] [12, 13] rfl rfl rfl rfl (by rw [hF]; rfl) ?_
    refine T_ren [(12, 12), (13, 1000)] rfl rfl rfl (by rw [hF]; rfl) ?_
    refine T_ret ?_
    obtain rfl := someI hm
    refine ⟨[_, _], [1000], ⟨⟨_, _, rfl, rfl, .inr ⟨ag40, _, _, sz40, rfl, rfl⟩⟩, rfl, trivial⟩, ?_, rfl, rfl, rfl, rfl⟩
    rfl
  · replace hm := condF hq hm
    refine T_skip ?_
    refine T_seq ?_
    refine T_region ?_
    refine TL_pure rfl rfl rfl rfl (op_load_agg ag40 sz40 rfl rfl rfl) ?_
    obtain ⟨r14, hr14, hm⟩ := bindS hm
    refine TL_callO [(1000, 14)] (c_impl_Term_own p0 r14 hr14) Try.call89 rfl rfl rfl rfl rfl rfl rfl rfl rfl rfl rfl rfl rfl ?_
    refine TL_alloc 15 z40 rfl rfl rfl rfl rfl rfl rfl ?_
    refine TL_store_box sz40 rfl rfl rfl rfl rfl rfl rfl rfl rfl ?_
    refine TL_nil ?_
    refine T_seq ?_
    refine T_region ?_
    refine TL_pure rfl rfl rfl rfl (op_fieldAddr fa40_0 rfl rfl) ?_
    refine TL_pure rfl rfl rfl rfl (op_load_one ag2 rfl rfl) ?_
    refine TL_pure rfl rfl rfl rfl (op_move rfl) ?_
    obtain ⟨r18, hr18, hm⟩ := bindS hm
    refine TL_callF (c_impl_divFloor p0.Const r9 r18 hr18) Try.call137 rfl rfl rfl rfl rfl ?_
    refine TL_pure rfl rfl rfl rfl (op_fieldAddr fa40_0 rfl rfl) ?_
    refine TL_store_box sz2 rfl rfl rfl rfl rfl rfl rfl rfl rfl ?_
    refine TL_nil ?_
    refine T_seq ?_
    refine T_seq ?_
    refine T_region ?_
    refine TL_pure rfl rfl rfl rfl (op_fieldAddr fa40_1 rfl rfl) ?_
    refine TL_pure rfl rfl rfl rfl (op_load_one ag32 rfl rfl) ?_
    refine TL_pure rfl rfl rfl rfl (op_lenO Try.underlying32 rfl rfl (List.length_map _)) ?_
    refine TL_fact (fun _ _ _ hr => RelP.owLen (id := 14) rfl hr) (fun hlen22 => ?_)
    rw [List.length_map] at hlen22
    refine TL_pure rfl rfl rfl rfl (op_move rfl) ?_
    refine TL_nil ?_
    refine T_block ?_
    refine T_keepH [2, 4, 5, 22, 23] [12, 14, 15] rfl rfl rfl rfl (by rw [hF]; rfl) ?_
    refine T_loop ?_
    obtain ⟨u0, hl0, hm⟩ := bindS hm
    refine TR_iter2 (m_impl_Term_tightened_L0 r9 r14) (fun (s0 : (List Int) × Int) => ⟨[(2, .ptr 12 0 0), (4, .int .i64 r9), (5, .ptr 15 0 0), (22, .int .i64 (r14.Coeffs.length : Int)), (23, .int .i64 s0.2)], [(12, .box [.int .i64 (0 : Int), .snil]), (14, .arr ⟨false, true⟩ 1 2 (List.map a_i64 s0.1)), (15, .box [.int .i64 r18, .ow 14])]⟩) (fun u0 => .exit 0) (fun u0 => ⟨[(2, .ptr 12 0 0), (5, .ptr 15 0 0)], [(12, .box [.int .i64 (0 : Int), .snil]), (14, .arr ⟨false, true⟩ 1 2 (List.map a_i64 u0)), (15, .box [.int .i64 r18, .ow 14])]⟩) (fun u0 => m_impl_Term_tightened_A0 r18 u0 = some out) hl0 hm (fun u0 hm => ?_) (fun hx0 s0 c0 hm hc0 => ?_)
    · unfold m_impl_Term_tightened_A0 at hm
      refine T_seq ?_
      refine T_region ?_
      refine TL_pure rfl rfl rfl rfl (op_load_agg ag40 sz40 rfl rfl rfl) ?_
      refine TL_store_box sz40 rfl rfl rfl rfl rfl rfl rfl rfl rfl ?_
      refine TL_pure rfl rfl rfl rfl (op_assign rfl) ?_
      refine TL_nil ?_
      refine T_keepH [2, 3] [12, 14] rfl rfl rfl rfl (by rw [hF]; rfl) ?_
      refine T_ren [(12, 12), (14, 1000)] rfl rfl rfl (by rw [hF]; rfl) ?_
      refine T_ret ?_
      obtain rfl := someI hm
      refine ⟨[_, _], [1000], ⟨⟨_, _, rfl, rfl, .inr ⟨ag40, _, _, sz40, rfl, rfl⟩⟩, rfl, trivial⟩, ?_, rfl, rfl, rfl, rfl⟩
      rfl
    · unfold m_impl_Term_tightened_L0 at hm
      refine T_seq ?_
      refine T_region ?_
      refine TL_pure rfl rfl rfl rfl (op_lss rfl rfl) ?_
      refine TL_nil ?_
      refine T_seq ?_
      refine T_cond rfl (fun hq => ?_) (fun hq => ?_)
      · replace hm := condT hq hm
        refine T_skip ?_
        refine T_seq ?_
        refine T_block ?_
        refine T_seq ?_
        refine T_region ?_
        refine TL_pure rfl rfl rfl rfl (op_move rfl) ?_
        refine TL_pure rfl rfl rfl rfl (op_assign rfl) ?_
        refine TL_nil ?_
        refine T_region ?_
        refine TL_pure rfl rfl rfl rfl (op_fieldAddr fa40_1 rfl rfl) ?_
        refine TL_pure rfl rfl rfl rfl (op_load_one ag32 rfl rfl) ?_
        refine TL_pure rfl rfl rfl rfl (op_move rfl) ?_
        obtain ⟨x29, hx29, hm⟩ := bindS hm
        refine TL_pure rfl rfl rfl rfl (op_indexO el32 rfl rfl rfl hx29) ?_
        refine TL_pure rfl rfl rfl rfl (op_loadD1 ag2 rfl rfl ((getI_spec hx29).2) rfl rfl rfl rfl) ?_
        refine TL_pure rfl rfl rfl rfl (op_move rfl) ?_
        obtain ⟨q32, hq32, hm⟩ := bindS hm
        refine TL_pure rfl rfl rfl rfl (op_quoT rfl rfl hq32) ?_
        refine TL_pure rfl rfl rfl rfl (op_indexO el32 rfl rfl rfl hx29) ?_
        refine TL_storeFT sz2 rfl rfl ((getI_spec hx29).2) (v' := q32) rfl rfl rfl rfl rfl rfl rfl rfl rfl ?_
        refine TL_nil ?_
        refine T_region ?_
        refine TL_pure rfl rfl rfl rfl (op_addW rfl rfl) ?_
        refine TL_pure rfl rfl rfl rfl (op_move rfl) ?_
        refine TL_nil ?_
        refine TR_keepH [2, 4, 5, 22, 23] [12, 14, 15] rfl rfl rfl rfl (by rw [hF]; rfl) ?_
        obtain rfl := someI hm
        have hn := CtlOK_next hc0
        exact hn _ rfl
      · replace hm := condF hq hm
        refine T_keepH [2, 5] [12, 14, 15] rfl rfl rfl rfl (by rw [hF]; rfl) ?_
        refine T_exit ?_
        obtain rfl := someI hm
        have hn := CtlOK_out hc0
        exact hx0 s0.1 hn
theorem c_impl_checking_examine_F (rec_impl_checking_examine : checking → Int → (List Term) → Option (Int × checking)) (hrec_impl_checking_examine : ∀ (p0 : checking) (p1 : Int) (p2 : List Term) (out : Int × checking), rec_impl_checking_examine p0 p1 p2 = some out → ACall Try.prog 115 [.ptr 0 0 0, .int .i64 p1, .sl 2 (List.map a_Term p2)] [(0, .box [.sl 5 (List.map a_Node p0.proof), .mp 1, .int .i64 p0.flaw]), (1, .box (.tr (.tup (List.map aMa_i64aLa_Term p0.contexts)) :: jk))] (.int .i64 out.1) [(0, .box [.sl 5 (List.map a_Node out.2.proof), .mp 1, .int .i64 out.2.flaw]), (1, .box (.tr (.tup (List.map aMa_i64aLa_Term out.2.contexts)) :: jk))]) (p0 : checking) (p1 : Int) (p2 : List Term) (out : Int × checking) (hm : m_impl_checking_examine_F rec_impl_checking_examine p0 p1 p2 = some out) : ACall Try.prog 115 [.ptr 0 0 0, .int .i64 p1, .sl 2 (List.map a_Term p2)] [(0, .box [.sl 5 (List.map a_Node p0.proof), .mp 1, .int .i64 p0.flaw]), (1, .box (.tr (.tup (List.map aMa_i64aLa_Term p0.contexts)) :: jk))] (.int .i64 out.1) [(0, .box [.sl 5 (List.map a_Node out.2.proof), .mp 1, .int .i64 out.2.flaw]), (1, .box (.tr (.tup (List.map aMa_i64aLa_Term out.2.contexts)) :: jk))] := by
  refine ACall.intro Try.func115 rfl Try.ntmps115 rfl (fun F hF => ?_)
  unfold m_impl_checking_examine_F at hm
  refine T_seq ?_
  refine T_region ?_
  refine TL_pure rfl rfl rfl rfl (op_assign rfl) ?_
  refine TL_nil ?_
  refine T_seq ?_
  refine T_region ?_
  refine TL_pure rfl rfl rfl rfl (op_move rfl) ?_
  refine TL_pure rfl rfl rfl rfl (op_nilCheck rfl rfl) ?_
  refine TL_pure rfl rfl rfl rfl (op_fieldAddr fa111_0 rfl rfl) ?_
  refine TL_pure rfl rfl rfl rfl (op_load_one ag24 rfl rfl) ?_
  refine TL_pure rfl rfl rfl rfl (op_move rfl) ?_
  obtain ⟨r22, hr22, hm⟩ := bindS hm
  refine TL_callF (c_impl_behindProof 1000 p0.proof p1 r22 hr22) Try.call51 rfl rfl rfl rfl rfl ?_
  refine TL_pure rfl rfl rfl rfl (op_move rfl) ?_
  refine TL_pure rfl rfl rfl rfl (op_extract rfl rfl) ?_
  refine TL_pure rfl rfl rfl rfl (op_extract rfl rfl) ?_
  refine TL_pure rfl rfl rfl rfl (op_extract rfl rfl) ?_
  refine TL_pure rfl rfl rfl rfl (op_assign rfl) ?_
  refine TL_pure rfl rfl rfl rfl (op_assign rfl) ?_
  refine TL_pure rfl rfl rfl rfl (op_assign rfl) ?_
  refine TL_nil ?_
  refine T_seq ?_
  refine T_region ?_
  refine TL_pure rfl rfl rfl rfl (op_move rfl) ?_
  refine TL_pure rfl rfl rfl rfl (op_nilCheck rfl rfl) ?_
  refine TL_pure rfl rfl rfl rfl (op_fieldAddr fa111_0 rfl rfl) ?_
  refine TL_pure rfl rfl rfl rfl (op_load_one ag24 rfl rfl) ?_
  refine TL_pure rfl rfl rfl rfl (op_move rfl) ?_
  obtain ⟨x31, hx31, hm⟩ := bindS hm
  refine TL_pure rfl rfl rfl rfl (op_indexT el24 rfl rfl hx31 rfl) ?_
  refine TL_pure rfl rfl rfl rfl (op_load_agg ag62 sz62 rfl rfl rfl) ?_
  refine TL_alloc 11 z62 rfl rfl rfl rfl rfl rfl rfl ?_
  refine TL_store_box sz62 rfl rfl rfl rfl rfl rfl rfl rfl rfl ?_
  refine TL_nil ?_
  refine T_seq ?_
  refine T_region ?_
  refine TL_pure rfl rfl rfl rfl (op_move rfl) ?_
  refine TL_pure rfl rfl rfl rfl (op_nilCheck rfl rfl) ?_
  refine TL_pure rfl rfl rfl rfl (op_fieldAddr fa111_1 rfl rfl) ?_
  refine TL_pure rfl rfl rfl rfl (op_load_one ag109 rfl rfl) ?_
  refine TL_pure rfl rfl rfl rfl (op_move rfl) ?_
  refine TL_pure rfl rfl rfl rfl (op_move rfl) ?_
  refine TL_mapSet (e := p0.contexts) (f := aMa_i64aLa_Term) (encK := a_i64) (encV := aLa_Term) p1 p2 Try.underlying109 (key_i64 Try.underlying3) (fun _ => rfl) rfl rfl rfl rfl rfl rfl rfl rfl rfl ?_
  refine TL_nil ?_
  refine T_seq ?_
  refine T_region ?_
  refine TL_pure rfl rfl rfl rfl (op_move rfl) ?_
  refine TL_pure rfl rfl rfl rfl (op_lenT Try.underlying39 rfl (List.length_map _)) ?_
  refine TL_fact (fun _ _ _ hr => RelP.slLen (i := 39) rfl hr) (fun hlen40 => ?_)
  rw [List.length_map] at hlen40
  refine TL_pure rfl rfl rfl rfl (op_lss rfl rfl) ?_
  refine TL_pure rfl rfl rfl rfl (op_assign rfl) ?_
  refine TL_nil ?_
  refine T_join (fun (j2 : Unit) => ⟨[(0, .ptr 0 0 0), (1, .int .i64 p1), (7, .int .i64 r22.1)], [(0, .box [.sl 5 (List.map a_Node p0.proof), .mp 1, .int .i64 p0.flaw]), (1, .box (.tr (.tup (List.map aMa_i64aLa_Term (mput p0.contexts p1 p2))) :: jk))]⟩) (fun j2 => m_impl_checking_examine_F_J2 p0 p1 p2 r22 j2 = some out) (fun j2 hm => ?_) (fun hj2 => ?_)
  · unfold m_impl_checking_examine_F_J2 at hm
    refine T_seq ?_
    refine T_seq ?_
    refine T_region ?_
    refine TL_pure rfl rfl rfl rfl (op_move rfl) ?_
    refine TL_pure rfl rfl rfl rfl (op_nilCheck rfl rfl) ?_
    refine TL_pure rfl rfl rfl rfl (op_fieldAddr fa111_2 rfl rfl) ?_
    refine TL_pure rfl rfl rfl rfl (op_load_one ag2 rfl rfl) ?_
    refine TL_pure rfl rfl rfl rfl (op_lss rfl rfl) ?_
    refine TL_nil ?_
    refine T_cond rfl (fun hq => ?_) (fun hq => ?_)
    · replace hm := condT hq hm
      refine T_region ?_
      refine TL_pure rfl rfl rfl rfl (op_move rfl) ?_
      refine TL_pure rfl rfl rfl rfl (op_move rfl) ?_
      refine TL_pure rfl rfl rfl rfl (op_nilCheck rfl rfl) ?_
      refine TL_pure rfl rfl rfl rfl (op_fieldAddr fa111_2 rfl rfl) ?_
      refine TL_store_box sz2 rfl rfl rfl rfl rfl rfl rfl rfl rfl ?_
      refine TL_nil ?_
      refine T_seq ?_
      refine T_region ?_
      refine TL_pure rfl rfl rfl rfl (op_move rfl) ?_
      refine TL_pure rfl rfl rfl rfl (op_assign rfl) ?_
      refine TL_nil ?_
      refine T_keepH [6] [0, 1] rfl rfl rfl rfl (by rw [hF]; rfl) ?_
      refine T_ret ?_
      obtain rfl := someI hm
      refine ⟨[_], [0, 1], ⟨rfl, trivial⟩, ?_, rfl, rfl, rfl, rfl⟩
      rfl
    · replace hm := condF hq hm
      refine T_skip ?_
      refine T_seq ?_
      refine T_region ?_
      refine TL_pure rfl rfl rfl rfl (op_move rfl) ?_
      refine TL_pure rfl rfl rfl rfl (op_assign rfl) ?_
      refine TL_nil ?_
      refine T_keepH [6] [0, 1] rfl rfl rfl rfl (by rw [hF]; rfl) ?_
      refine T_ret ?_
      obtain rfl := someI hm
      refine ⟨[_], [0, 1], ⟨rfl, trivial⟩, ?_, rfl, rfl, rfl, rfl⟩
      rfl
  · refine T_seq ?_
    refine T_region ?_
    refine TL_pure rfl rfl rfl rfl (op_fieldAddr fa62_0 rfl rfl) ?_
    refine TL_pure rfl rfl rfl rfl (op_load_one ag2 rfl rfl) ?_
    refine TL_nil ?_
    refine T_block ?_
    refine T_seq ?_
    refine T_region ?_
    refine TL_pure rfl rfl rfl rfl (op_eql rfl rfl) ?_
    refine TL_pure rfl rfl rfl rfl (op_assign rfl) ?_
    refine TL_nil ?_
    refine T_cond rfl (fun hq => ?_) (fun hq => ?_)
    · replace hm := condT hq hm
      refine T_seq ?_
      refine T_region ?_
      refine TL_pure rfl rfl rfl rfl (op_move rfl) ?_
      refine TL_pure rfl rfl rfl rfl (op_fieldAddr fa62_3 rfl rfl) ?_
      refine TL_pure rfl rfl rfl rfl (op_load_one ag32 rfl rfl) ?_
      obtain ⟨r49, hr49, hm⟩ := bindS hm
      refine TL_callF (c_impl_closes p2 x31.Multipliers r49 hr49) Try.call65 rfl rfl rfl rfl rfl ?_
      refine TL_nil ?_
      refine T_cond rfl (fun hq => ?_) (fun hq => ?_)
      · replace hm := condT hq hm
        refine T_seq ?_
        refine T_region ?_
        refine TL_pure rfl rfl rfl rfl (op_move rfl) ?_
        refine TL_pure rfl rfl rfl rfl (op_assign rfl) ?_
        refine TL_nil ?_
        refine T_keepH [6] [0, 1] rfl rfl rfl rfl (by rw [hF]; rfl) ?_
        refine T_ret ?_
        obtain rfl := someI hm
        refine ⟨[_], [0, 1], ⟨rfl, trivial⟩, ?_, rfl, rfl, rfl, rfl⟩
        rfl
      · replace hm := condF hq hm
        refine T_skip ?_
        refine T_keepH [0, 1, 7] [0, 1] rfl rfl rfl rfl (by rw [hF]; rfl) ?_
        exact hj2 () hm
    · replace hm := condF hq hm
      refine T_seq ?_
      refine T_region ?_
      refine TL_pure rfl rfl rfl rfl (op_eql rfl rfl) ?_
      refine TL_pure rfl rfl rfl rfl (op_assign rfl) ?_
      refine TL_nil ?_
      refine T_cond rfl (fun hq => ?_) (fun hq => ?_)
      · replace hm := condT hq hm
        refine T_seq ?_
        refine T_region ?_
        refine TL_pure rfl rfl rfl rfl (op_fieldAddr fa62_2 rfl rfl) ?_
        refine TL_pure rfl rfl rfl rfl (op_load_agg ag40 sz40 rfl rfl rfl) ?_
        obtain ⟨r55, hr55, hm⟩ := bindS hm
        refine TL_callO [(1000, 16)] (c_impl_Term_opposite x31.Term r55 hr55) Try.call112 rfl rfl rfl rfl rfl rfl rfl rfl rfl rfl rfl rfl rfl ?_
        refine TL_alloc 17 z40 rfl rfl rfl rfl rfl rfl rfl ?_
        refine TL_store_box sz40 rfl rfl rfl rfl rfl rfl rfl rfl rfl ?_
        refine TL_nil ?_
        refine T_join (fun (j0 : Bool) => ⟨[(0, .ptr 0 0 0), (1, .int .i64 p1), (2, .sl 2 (List.map a_Term p2)), (7, .int .i64 r22.1), (10, .ptr 11 0 0), (12, .ptr 17 0 0), (60, .bool j0)], [(0, .box [.sl 5 (List.map a_Node p0.proof), .mp 1, .int .i64 p0.flaw]), (1, .box (.tr (.tup (List.map aMa_i64aLa_Term (mput p0.contexts p1 p2))) :: jk)), (11, .box [.int .i64 x31.Kind, .int .i64 x31.Fact, .int .i64 x31.Term.Const, .sl 1 (List.map a_i64 x31.Term.Coeffs), .sl 1 (List.map a_i64 x31.Multipliers)]), (16, .arr ⟨false, true⟩ 1 2 (List.map a_i64 r55.Coeffs)), (17, .box [.int .i64 r55.Const, .ow 16])]⟩) (fun j0 => m_impl_checking_examine_F_J0 rec_impl_checking_examine p0 p1 p2 r22 x31 r55 j0 = some out) (fun j0 hm => ?_) (fun hj0 => ?_)
        · unfold m_impl_checking_examine_F_J0 at hm
          refine T_cond rfl (fun hq => ?_) (fun hq => ?_)
          · replace hm := condT hq hm
            refine T_seq ?_
            refine T_region ?_
            refine TL_pure rfl rfl rfl rfl (op_move rfl) ?_
            refine TL_pure rfl rfl rfl rfl (op_move rfl) ?_
            refine TL_pure rfl rfl rfl rfl (op_addW rfl rfl) ?_
            refine TL_pure rfl rfl rfl rfl (op_move rfl) ?_
            refine TL_pure rfl rfl rfl rfl (op_fieldAddr fa62_2 rfl rfl) ?_
            refine TL_pure rfl rfl rfl rfl (op_load_agg ag40 sz40 rfl rfl rfl) ?_
            obtain ⟨r67, hr67, hm⟩ := bindS hm
            refine TL_callT (c_impl_with p2 x31.Term r67 hr67) Try.call83 rfl rfl rfl rfl rfl ?_
            obtain ⟨r68, hr68, hm⟩ := bindS hm
            refine TL_call [(0, 0), (1, 1)] [] [] (hrec_impl_checking_examine (checking.mk p0.proof (mput p0.contexts p1 p2) p0.flaw) (w64 (p1 + (1 : Int))) r67 r68 hr68) Try.call115 rfl rfl rfl rfl rfl ⟨rfl, rfl, trivial⟩ rfl rfl rfl rfl rfl rfl rfl rfl rfl rfl rfl ?_
            refine TL_pure rfl rfl rfl rfl (op_assign rfl) ?_
            refine TL_nil ?_
            refine T_seq ?_
            refine T_region ?_
            refine TL_pure rfl rfl rfl rfl (op_move rfl) ?_
            refine TL_pure rfl rfl rfl rfl (op_move rfl) ?_
            refine TL_pure rfl rfl rfl rfl (op_move rfl) ?_
            refine TL_pure rfl rfl rfl rfl (op_load_agg ag40 sz40 rfl rfl rfl) ?_
            refine TL_freeze 16 (by rw [hF]; rfl) rfl rfl rfl ?_
            obtain ⟨r73, hr73, hm⟩ := bindS hm
            refine TL_callT (c_impl_with p2 r55 r73 hr73) Try.call83 rfl rfl rfl rfl rfl ?_
            obtain ⟨r74, hr74, hm⟩ := bindS hm
            refine TL_call [(0, 0), (1, 1)] [] [] (hrec_impl_checking_examine r68.2 r68.1 r73 r74 hr74) Try.call115 rfl rfl rfl rfl rfl ⟨rfl, rfl, trivial⟩ rfl rfl rfl rfl rfl rfl rfl rfl rfl rfl rfl ?_
            refine TL_pure rfl rfl rfl rfl (op_assign rfl) ?_
            refine TL_nil ?_
            refine T_keepH [6] [0, 1] rfl rfl rfl rfl (by rw [hF]; rfl) ?_
            refine T_ret ?_
            obtain rfl := someI hm
            refine ⟨[_], [0, 1], ⟨rfl, trivial⟩, ?_, rfl, rfl, rfl, rfl⟩
            rfl
          · replace hm := condF hq hm
            refine T_skip ?_
            refine T_keepH [0, 1, 7] [0, 1] rfl rfl rfl rfl (by rw [hF]; rfl) ?_
            exact hj2 () hm
        · refine T_region ?_
          refine TL_pure rfl rfl rfl rfl (op_move rfl) ?_
          refine TL_pure rfl rfl rfl rfl (op_move rfl) ?_
          refine TL_split 57 rfl rfl rfl (fun hq => ?_) (fun hq => ?_)
          · replace hm := condT hq hm
            refine TL_want rfl rfl ?_
            refine TL_pure rfl rfl rfl rfl (op_load_agg ag40 sz40 rfl rfl rfl) ?_
            refine TL_want rfl rfl ?_
            obtain ⟨r59, hr59, hm⟩ := bindS hm
            refine TL_callF (c_impl_ValidTerm r55 r59 hr59) Try.call79 rfl rfl rfl rfl rfl ?_
            refine TL_pure rfl rfl rfl rfl (op_pick_true rfl rfl) ?_
            refine TL_nil ?_
            refine T_keepH [0, 1, 2, 7, 10, 12, 60] [0, 1, 11, 16, 17] rfl rfl rfl rfl (by rw [hF]; rfl) ?_
            exact hj0 r59 hm
          · replace hm := condF hq hm
            refine TL_pass rfl rfl rfl rfl rfl rfl rfl ?_
            refine TL_pass rfl rfl rfl rfl rfl rfl rfl ?_
            refine TL_pure rfl rfl rfl rfl (op_pick_false rfl rfl) ?_
            refine TL_nil ?_
            refine T_keepH [0, 1, 2, 7, 10, 12, 60] [0, 1, 11, 16, 17] rfl rfl rfl rfl (by rw [hF]; rfl) ?_
            exact hj0 false hm
      · replace hm := condF hq hm
        refine T_seq ?_
        refine T_region ?_
        refine TL_pure rfl rfl rfl rfl (op_eql rfl rfl) ?_
        refine TL_pure rfl rfl rfl rfl (op_assign rfl) ?_
        refine TL_nil ?_
        refine T_cond rfl (fun hq => ?_) (fun hq => ?_)
        · replace hm := condT hq hm
          refine T_join (fun (j1 : Bool) => ⟨[(0, .ptr 0 0 0), (1, .int .i64 p1), (2, .sl 2 (List.map a_Term p2)), (7, .int .i64 r22.1), (10, .ptr 11 0 0), (84, .bool j1)], [(0, .box [.sl 5 (List.map a_Node p0.proof), .mp 1, .int .i64 p0.flaw]), (1, .box (.tr (.tup (List.map aMa_i64aLa_Term (mput p0.contexts p1 p2))) :: jk)), (11, .box [.int .i64 x31.Kind, .int .i64 x31.Fact, .int .i64 x31.Term.Const, .sl 1 (List.map a_i64 x31.Term.Coeffs), .sl 1 (List.map a_i64 x31.Multipliers)])]⟩) (fun j1 => m_impl_checking_examine_F_J1 rec_impl_checking_examine p0 p1 p2 r22 x31 j1 = some out) (fun j1 hm => ?_) (fun hj1 => ?_)
          · unfold m_impl_checking_examine_F_J1 at hm
            refine T_cond rfl (fun hq => ?_) (fun hq => ?_)
            · replace hm := condT hq hm
              refine T_seq ?_
              refine T_region ?_
              refine TL_pure rfl rfl rfl rfl (op_move rfl) ?_
              refine TL_pure rfl rfl rfl rfl (op_fieldAddr fa62_1 rfl rfl) ?_
              refine TL_pure rfl rfl rfl rfl (op_load_one ag2 rfl rfl) ?_
              obtain ⟨x89, hx89, hm⟩ := bindS hm
              refine TL_pure rfl rfl rfl rfl (op_indexT el39 rfl rfl hx89 rfl) ?_
              refine TL_pure rfl rfl rfl rfl (op_load_agg ag40 sz40 rfl rfl rfl) ?_
              obtain ⟨r91, hr91, hm⟩ := bindS hm
              refine TL_callO [(1000, 18)] (c_impl_Term_tightened x89 r91 hr91) Try.call134 rfl rfl rfl rfl rfl rfl rfl rfl rfl rfl rfl rfl rfl ?_
              refine TL_pure rfl rfl rfl rfl (op_move rfl) ?_
              refine TL_pure rfl rfl rfl rfl (op_extract rfl rfl) ?_
              refine TL_pure rfl rfl rfl rfl (op_extract rfl rfl) ?_
              refine TL_alloc 19 z40 rfl rfl rfl rfl rfl rfl rfl ?_
              refine TL_store_box sz40 rfl rfl rfl rfl rfl rfl rfl rfl rfl ?_
              refine TL_pure rfl rfl rfl rfl (op_assign rfl) ?_
              refine TL_nil ?_
              refine T_seq ?_
              refine T_region ?_
              refine TL_pure rfl rfl rfl rfl (op_move rfl) ?_
              refine TL_nil ?_
              refine T_cond rfl (fun hq => ?_) (fun hq => ?_)
              · replace hm := condT hq hm
                refine T_seq ?_
                refine T_region ?_
                refine TL_pure rfl rfl rfl rfl (op_move rfl) ?_
                refine TL_pure rfl rfl rfl rfl (op_move rfl) ?_
                refine TL_pure rfl rfl rfl rfl (op_addW rfl rfl) ?_
                refine TL_pure rfl rfl rfl rfl (op_move rfl) ?_
                refine TL_pure rfl rfl rfl rfl (op_load_agg ag40 sz40 rfl rfl rfl) ?_
                refine TL_freeze 18 (by rw [hF]; rfl) rfl rfl rfl ?_
                obtain ⟨r100, hr100, hm⟩ := bindS hm
                refine TL_callT (c_impl_with p2 r91.1 r100 hr100) Try.call83 rfl rfl rfl rfl rfl ?_
                obtain ⟨r101, hr101, hm⟩ := bindS hm
                refine TL_call [(0, 0), (1, 1)] [] [] (hrec_impl_checking_examine (checking.mk p0.proof (mput p0.contexts p1 p2) p0.flaw) (w64 (p1 + (1 : Int))) r100 r101 hr101) Try.call115 rfl rfl rfl rfl rfl ⟨rfl, rfl, trivial⟩ rfl rfl rfl rfl rfl rfl rfl rfl rfl rfl rfl ?_
                refine TL_pure rfl rfl rfl rfl (op_assign rfl) ?_
                refine TL_nil ?_
                refine T_keepH [6] [0, 1] rfl rfl rfl rfl (by rw [hF]; rfl) ?_
                refine T_ret ?_
                obtain rfl := someI hm
                refine ⟨[_], [0, 1], ⟨rfl, trivial⟩, ?_, rfl, rfl, rfl, rfl⟩
                rfl
              · replace hm := condF hq hm
                refine T_skip ?_
                refine T_keepH [0, 1, 7] [0, 1] rfl rfl rfl rfl (by rw [hF]; rfl) ?_
                exact hj2 () hm
            · replace hm := condF hq hm
              refine T_skip ?_
              refine T_keepH [0, 1, 7] [0, 1] rfl rfl rfl rfl (by rw [hF]; rfl) ?_
              exact hj2 () hm
          · refine T_region ?_
            refine TL_pure rfl rfl rfl rfl (op_move rfl) ?_
            refine TL_pure rfl rfl rfl rfl (op_move rfl) ?_
            refine TL_split 78 rfl rfl rfl (fun hq => ?_) (fun hq => ?_)
            · replace hm := condT hq hm
              refine TL_want rfl rfl ?_
              refine TL_pure rfl rfl rfl rfl (op_fieldAddr fa62_1 rfl rfl) ?_
              refine TL_want rfl rfl ?_
              refine TL_pure rfl rfl rfl rfl (op_load_one ag2 rfl rfl) ?_
              refine TL_want rfl rfl ?_
              refine TL_pure rfl rfl rfl rfl (op_move rfl) ?_
              refine TL_want rfl rfl ?_
              refine TL_pure rfl rfl rfl rfl (op_lenT Try.underlying39 rfl (List.length_map _)) ?_
              refine TL_want rfl rfl ?_
              obtain ⟨r83, hr83, hm⟩ := bindS hm
              refine TL_callF (c_impl_isIndex x31.Fact (p2.length : Int) r83 hr83) Try.call50 rfl rfl rfl rfl rfl ?_
              refine TL_pure rfl rfl rfl rfl (op_pick_true rfl rfl) ?_
              refine TL_nil ?_
              refine T_keepH [0, 1, 2, 7, 10, 84] [0, 1, 11] rfl rfl rfl rfl (by rw [hF]; rfl) ?_
              exact hj1 r83 hm
            · replace hm := condF hq hm
              refine TL_pass rfl rfl rfl rfl rfl rfl rfl ?_
              refine TL_pass rfl rfl rfl rfl rfl rfl rfl ?_
              refine TL_pass rfl rfl rfl rfl rfl rfl rfl ?_
              refine TL_pass rfl rfl rfl rfl rfl rfl rfl ?_
              refine TL_pass rfl rfl rfl rfl rfl rfl rfl ?_
              refine TL_pure rfl rfl rfl rfl (op_pick_false rfl rfl) ?_
              refine TL_nil ?_
              refine T_keepH [0, 1, 2, 7, 10, 84] [0, 1, 11] rfl rfl rfl rfl (by rw [hF]; rfl) ?_
              exact hj1 false hm
        · replace hm := condF hq hm
          refine T_skip ?_
          refine T_keepH [0, 1, 7] [0, 1] rfl rfl rfl rfl (by rw [hF]; rfl) ?_
          exact hj2 () hm
theorem c_impl_checking_examine : ∀ (n : Nat) (p0 : checking) (p1 : Int) (p2 : List Term) (out : Int × checking), m_impl_checking_examine n p0 p1 p2 = some out → ACall Try.prog 115 [.ptr 0 0 0, .int .i64 p1, .sl 2 (List.map a_Term p2)] [(0, .box [.sl 5 (List.map a_Node p0.proof), .mp 1, .int .i64 p0.flaw]), (1, .box (.tr (.tup (List.map aMa_i64aLa_Term p0.contexts)) :: jk))] (.int .i64 out.1) [(0, .box [.sl 5 (List.map a_Node out.2.proof), .mp 1, .int .i64 out.2.flaw]), (1, .box (.tr (.tup (List.map aMa_i64aLa_Term out.2.contexts)) :: jk))] := by
  intro n
  induction n with
  | zero => intro p0 p1 p2 out hm; cases hm
  | succ n ih => intro p0 p1 p2 out hm; exact c_impl_checking_examine_F (m_impl_checking_examine n) ih p0 p1 p2 out hm
theorem c_impl_examined (p0 : Sequent) (p1 : List Node) (out : checking × Bool) (hm : m_impl_examined p0 p1 = some out) : ACall Try.prog 73 [.agg [.sl 2 (List.map a_Term p0.Facts), .int .i64 p0.Goal.Const, .sl 1 (List.map a_i64 p0.Goal.Coeffs)], .sl 5 (List.map a_Node p1)] [] (bif out.2 then .tup [.ptr 1000 0 0, .bool true] else .tup [.nilp, .bool false]) (bif out.2 then [(1000, .box [.sl 5 (List.map a_Node out.1.proof), .mp 1001, .int .i64 out.1.flaw]), (1001, .box (.tr (.tup (List.map aMa_i64aLa_Term out.1.contexts)) :: jk))] else []) := by
  refine ACall.intro Try.func73 rfl Try.ntmps73 rfl (fun F hF => ?_)
  unfold m_impl_examined at hm
  refine T_seq ?_
  refine T_region ?_
  refine TL_box 11 rfl rfl rfl rfl rfl rfl rfl ?_
  refine TL_pure rfl rfl rfl rfl (op_assign rfl) ?_
  refine TL_pure rfl rfl rfl rfl (op_assign rfl) ?_
  refine TL_nil ?_
  refine T_seq ?_
  refine T_region ?_
  refine TL_pure rfl rfl rfl rfl (op_load_agg ag42 sz42 rfl rfl rfl) ?_
  obtain ⟨r11, hr11, hm⟩ := bindS hm
  refine TL_callO [(1000, 12)] (c_impl_ContextOf p0 r11 hr11) Try.call64 rfl rfl rfl rfl rfl rfl rfl rfl rfl rfl rfl rfl rfl ?_
  refine TL_pure rfl rfl rfl rfl (op_move rfl) ?_
  refine TL_pure rfl rfl rfl rfl (op_extract rfl rfl) ?_
  refine TL_pure rfl rfl rfl rfl (op_extract rfl rfl) ?_
  refine TL_pure rfl rfl rfl rfl (op_assign rfl) ?_
  refine TL_pure rfl rfl rfl rfl (op_assign rfl) ?_
  refine TL_nil ?_
  refine T_seq ?_
  refine T_seq ?_
  refine T_region ?_
  refine TL_pure rfl rfl rfl rfl (op_move rfl) ?_
  refine TL_pure rfl rfl rfl rfl (op_not rfl) ?_
  refine TL_pure rfl rfl rfl rfl (op_move rfl) ?_
  refine TL_split 16 rfl rfl rfl (fun hq => ?_) (fun hq => ?_)
  · replace hm := condT hq hm
    refine TL_pass rfl rfl rfl rfl rfl rfl rfl ?_
    refine TL_pass rfl rfl rfl rfl rfl rfl rfl ?_
    refine TL_pass rfl rfl rfl rfl rfl rfl rfl ?_
    refine TL_pure rfl rfl rfl rfl (op_pick_true rfl rfl) ?_
    refine TL_nil ?_
    refine T_cond_true rfl ?_
    refine T_seq ?_
    refine T_region ?_
    refine TL_pure rfl rfl rfl rfl (op_assign rfl) ?_
    refine TL_pure rfl rfl rfl rfl (op_assign rfl) ?_
    refine TL_nil ?_
    refine T_keepH [4, 5] [] rfl rfl rfl rfl (by rw [hF]; rfl) ?_
    refine T_ret ?_
    obtain rfl := someI hm
    refine ⟨[_, _], [], ⟨rfl, rfl, trivial⟩, ?_, rfl, rfl, rfl, rfl⟩
    rfl
  · replace hm := condF hq hm
    refine TL_want rfl rfl ?_
    refine TL_pure rfl rfl rfl rfl (op_move rfl) ?_
    refine TL_want rfl rfl ?_
    obtain ⟨r18, hr18, hm⟩ := bindS hm
    refine TL_callF (c_impl_IsProof p1 r18 hr18) Try.call32 rfl rfl rfl rfl rfl ?_
    refine TL_want rfl rfl ?_
    refine TL_pure rfl rfl rfl rfl (op_not rfl) ?_
    refine TL_pure rfl rfl rfl rfl (op_pick_false rfl rfl) ?_
    refine TL_nil ?_
    refine T_cond rfl (fun hq => ?_) (fun hq => ?_)
    · replace hm := condT hq hm
      refine T_seq ?_
      refine T_region ?_
      refine TL_pure rfl rfl rfl rfl (op_assign rfl) ?_
      refine TL_pure rfl rfl rfl rfl (op_assign rfl) ?_
      refine TL_nil ?_
      refine T_keepH [4, 5] [] rfl rfl rfl rfl (by rw [hF]; rfl) ?_
      refine T_ret ?_
      obtain rfl := someI hm
      refine ⟨[_, _], [], ⟨rfl, rfl, trivial⟩, ?_, rfl, rfl, rfl, rfl⟩
      rfl
    · replace hm := condF hq hm
      refine T_skip ?_
      refine T_seq ?_
      refine T_region ?_
      refine TL_pure rfl rfl rfl rfl (op_move rfl) ?_
      refine TL_makeMap (J := jk) 13 rfl rfl rfl rfl rfl rfl ?_
      refine TL_pure rfl rfl rfl rfl (op_buildP pl111 z111 rfl rfl rfl rfl rfl) ?_
      refine TL_box 14 rfl rfl rfl rfl rfl rfl rfl ?_
      refine TL_pure rfl rfl rfl rfl (op_assign rfl) ?_
      refine TL_nil ?_
      refine T_seq ?_
      refine T_region ?_
      refine TL_pure rfl rfl rfl rfl (op_move rfl) ?_
      refine TL_pure rfl rfl rfl rfl (op_move rfl) ?_
      refine TL_freeze 12 (by rw [hF]; rfl) rfl rfl rfl ?_
      obtain ⟨r27, hr27, hm⟩ := bindS hm
      refine TL_call [(0, 14), (1, 13)] [] [] (c_impl_checking_examine 1000 (checking.mk p1 ([] : List (Int × (List Term))) (-1 : Int)) (0 : Int) r11.1 r27 hr27) Try.call115 rfl rfl rfl rfl rfl ⟨rfl, rfl, trivial⟩ rfl rfl rfl rfl rfl rfl rfl rfl rfl rfl rfl ?_
      refine TL_nil ?_
      refine T_seq ?_
      refine T_region ?_
      refine TL_pure rfl rfl rfl rfl (op_move rfl) ?_
      refine TL_pure rfl rfl rfl rfl (op_assign rfl) ?_
      refine TL_pure rfl rfl rfl rfl (op_assign rfl) ?_
      refine TL_nil ?_
      refine T_keepH [4, 5] [13, 14] rfl rfl rfl rfl (by rw [hF]; rfl) ?_
      refine T_ren [(13, 1001), (14, 1000)] rfl rfl rfl (by rw [hF]; rfl) ?_
      refine T_keepH [4, 5] [1000, 1001] rfl rfl rfl rfl (by rw [hF]; rfl) ?_
      refine T_ret ?_
      obtain rfl := someI hm
      refine ⟨[_, _], [1000, 1001], ⟨rfl, rfl, trivial⟩, ?_, rfl, rfl, rfl, rfl⟩
      rfl
theorem c_impl_CheckProof (p0 : Sequent) (p1 : List Node) (out : Bool) (hm : m_impl_CheckProof p0 p1 = some out) : ACall Try.prog 28 [.agg [.sl 2 (List.map a_Term p0.Facts), .int .i64 p0.Goal.Const, .sl 1 (List.map a_i64 p0.Goal.Coeffs)], .sl 5 (List.map a_Node p1)] [] (.bool out) [] := by
  refine ACall.intro Try.func28 rfl Try.ntmps28 rfl (fun F hF => ?_)
  unfold m_impl_CheckProof at hm
  refine T_seq ?_
  refine T_region ?_
  refine TL_box 11 rfl rfl rfl rfl rfl rfl rfl ?_
  refine TL_pure rfl rfl rfl rfl (op_assign rfl) ?_
  refine TL_nil ?_
  refine T_seq ?_
  refine T_region ?_
  refine TL_pure rfl rfl rfl rfl (op_load_agg ag42 sz42 rfl rfl rfl) ?_
  refine TL_pure rfl rfl rfl rfl (op_move rfl) ?_
  obtain ⟨r10, hr10, hm⟩ := bindS hm
  rcases Bool.eq_false_or_eq_true r10.2 with hq | hq
  · replace hm := condT hq hm
    refine TLE_call [] [(1000, 12), (1001, 13)] [] (by have hc := c_impl_examined p0 p1 r10 hr10; rw [hq] at hc; exact hc) (fun _ => rfl) Try.call73 rfl rfl rfl rfl rfl trivial rfl rfl rfl rfl rfl rfl rfl rfl rfl rfl rfl ?_
    refine TL_pure rfl rfl rfl rfl (op_move rfl) ?_
    refine TL_pure rfl rfl rfl rfl (op_extract rfl rfl) ?_
    refine TL_pure rfl rfl rfl rfl (op_extract rfl rfl) ?_
    refine TL_pure rfl rfl rfl rfl (op_assign rfl) ?_
    refine TL_pure rfl rfl rfl rfl (op_assign rfl) ?_
    refine TL_nil ?_
    refine T_seq ?_
    refine T_region ?_
    refine TL_pure rfl rfl rfl rfl (op_move rfl) ?_
    refine TL_pure rfl rfl rfl rfl (op_move rfl) ?_
    refine TL_want rfl rfl ?_
    refine TL_pure rfl rfl rfl rfl (op_move rfl) ?_
    refine TL_want rfl rfl ?_
    refine TL_pure rfl rfl rfl rfl (op_nilCheck rfl rfl) ?_
    refine TL_want rfl rfl ?_
    refine TL_pure rfl rfl rfl rfl (op_fieldAddr fa111_2 rfl rfl) ?_
    refine TL_want rfl rfl ?_
    refine TL_pure rfl rfl rfl rfl (op_load_one ag2 rfl rfl) ?_
    refine TL_want rfl rfl ?_
    refine TL_pure rfl rfl rfl rfl (op_lss rfl rfl) ?_
    refine TL_pure rfl rfl rfl rfl (op_pick_true rfl rfl) ?_
    refine TL_pure rfl rfl rfl rfl (op_assign rfl) ?_
    refine TL_nil ?_
    refine T_keepH [4] [] rfl rfl rfl rfl (by rw [hF]; rfl) ?_
    refine T_ret ?_
    obtain rfl := someI hm
    refine ⟨[_], [], ⟨rfl, trivial⟩, ?_, rfl, rfl, rfl, rfl⟩
    rfl
  · replace hm := condF hq hm
    refine TLE_call [] [] [] (by have hc := c_impl_examined p0 p1 r10 hr10; rw [hq] at hc; exact hc) (fun _ => rfl) Try.call73 rfl rfl rfl rfl rfl trivial rfl rfl rfl rfl rfl rfl rfl rfl rfl rfl rfl ?_
    refine TL_pure rfl rfl rfl rfl (op_move rfl) ?_
    refine TL_pure rfl rfl rfl rfl (op_extract rfl rfl) ?_
    refine TL_pure rfl rfl rfl rfl (op_extract rfl rfl) ?_
    refine TL_pure rfl rfl rfl rfl (op_assign rfl) ?_
    refine TL_pure rfl rfl rfl rfl (op_assign rfl) ?_
    refine TL_nil ?_
    refine T_seq ?_
    refine T_region ?_
    refine TL_pure rfl rfl rfl rfl (op_move rfl) ?_
    refine TL_pure rfl rfl rfl rfl (op_move rfl) ?_
    refine TL_pass rfl rfl rfl rfl rfl rfl rfl ?_
    refine TL_pass rfl rfl rfl rfl rfl rfl rfl ?_
    refine TL_pass rfl rfl rfl rfl rfl rfl rfl ?_
    refine TL_pass rfl rfl rfl rfl rfl rfl rfl ?_
    refine TL_pass rfl rfl rfl rfl rfl rfl rfl ?_
    refine TL_pure rfl rfl rfl rfl (op_pick_false rfl rfl) ?_
    refine TL_pure rfl rfl rfl rfl (op_assign rfl) ?_
    refine TL_nil ?_
    refine T_keepH [4] [] rfl rfl rfl rfl (by rw [hF]; rfl) ?_
    refine T_ret ?_
    obtain rfl := someI hm
    refine ⟨[_], [], ⟨rfl, trivial⟩, ?_, rfl, rfl, rfl, rfl⟩
    rfl
theorem c_impl_used (p0 : List Node) (p1 : Int) (out : List Bool) (hm : m_impl_used p0 p1 = some out) : ACall Try.prog 91 [.sl 5 (List.map a_Node p0), .int .i64 p1] [] (.ow 1000) [(1000, .arr ⟨false, true⟩ 1 4 (List.map a_bool out))] := by
  refine ACall.intro Try.func91 rfl Try.ntmps91 rfl (fun F hF => ?_)
  unfold m_impl_used at hm
  refine T_seq ?_
  refine T_region ?_
  refine TL_pure rfl rfl rfl rfl (op_assign rfl) ?_
  refine TL_nil ?_
  refine T_seq ?_
  refine T_region ?_
  refine TL_pure rfl rfl rfl rfl (op_move rfl) ?_
  obtain ⟨k11, hk11, hm⟩ := bindS hm
  refine TL_make 11 (n := k11) el124 z4 rfl rfl rfl rfl rfl rfl (makeI_spec hk11).1 (makeI_spec hk11).1 (makeI_spec hk11).2 rfl rfl rfl rfl ?_
  refine TL_nils 11 (List.map a_bool (List.replicate k11 false)) (by rw [hF]; rfl) rfl (ElR.rep (z := .bool false) (g := a_bool) (x := false) ⟨⟨rfl, rfl⟩, trivial⟩ k11) rfl ?_
  refine TL_pure rfl rfl rfl rfl (op_assign rfl) ?_
  refine TL_nil ?_
  refine T_seq ?_
  refine T_seq ?_
  refine T_region ?_
  refine TL_pure rfl rfl rfl rfl (op_move rfl) ?_
  refine TL_pure rfl rfl rfl rfl (op_lenT Try.underlying24 rfl (List.length_map _)) ?_
  refine TL_fact (fun _ _ _ hr => RelP.slLen (i := 12) rfl hr) (fun hlen13 => ?_)
  rw [List.length_map] at hlen13
  refine TL_pure rfl rfl rfl rfl (op_move rfl) ?_
  refine TL_nil ?_
  refine T_block ?_
  refine T_keepH [1, 5, 12, 13, 14] [11] rfl rfl rfl rfl (by rw [hF]; rfl) ?_
  refine T_loop ?_
  obtain ⟨u0, hl0, hm⟩ := bindS hm
  refine TR_forL2 p0 (m_impl_used_L0 p1) (fun (s0 : List Bool) => s0) (fun n0 (s0 : List Bool) => ⟨[(1, .int .i64 p1), (5, .ow 11), (12, .sl 5 (List.map a_Node p0)), (13, .int .i64 (p0.length : Int)), (14, .int .i64 (n0 : Int))], [(11, .arr ⟨false, false⟩ 1 4 (List.map a_bool s0))]⟩) (fun u0 => .exit 0) (fun u0 => ⟨[(5, .ow 11)], [(11, .arr ⟨false, false⟩ 1 4 (List.map a_bool u0))]⟩) (fun u0 => m_impl_used_A0 u0 = some out) hl0 hm (fun u0 hm => ?_) (fun hx0 s0 hm => ?_) (fun hx0 n0 x0 s0 c0 hxn0 hlt0 hm hc0 => ?_)
  · unfold m_impl_used_A0 at hm
    refine T_seq ?_
    refine T_region ?_
    refine TL_pure rfl rfl rfl rfl (op_move rfl) ?_
    refine TL_pure rfl rfl rfl rfl (op_assign rfl) ?_
    refine TL_nil ?_
    refine T_keepH [4] [11] rfl rfl rfl rfl (by rw [hF]; rfl) ?_
    refine T_deepen 11 (p' := false) (List.map a_bool u0) (by rw [hF]; rfl) rfl (ElR.map (f := a_bool) (g := a_bool) (fun _ => ⟨⟨rfl, rfl⟩, trivial⟩) u0) rfl rfl rfl ?_
    refine T_ren [(11, 1000)] rfl rfl rfl (by rw [hF]; rfl) ?_
    refine T_ret ?_
    obtain rfl := someI hm
    refine ⟨[_], [1000], ⟨rfl, trivial⟩, ?_, rfl, rfl, rfl, rfl⟩
    rfl
  · refine T_seq ?_
    refine T_region ?_
    refine TL_pure rfl rfl rfl rfl (op_lss rfl rfl) ?_
    refine TL_nil ?_
    refine T_seq ?_
    refine T_if_false rfl (decide_eq_false (by simp)) ?_
    refine T_keepH [5] [11] rfl rfl rfl rfl (by rw [hF]; rfl) ?_
    refine T_exit ?_
    exact hx0 s0 hm
  · unfold m_impl_used_L0 at hm
    refine T_seq ?_
    refine T_region ?_
    refine TL_pure rfl rfl rfl rfl (op_lss rfl rfl) ?_
    refine TL_nil ?_
    refine T_seq ?_
    refine T_if_true rfl (decide_eq_true (Int.ofNat_lt.2 hlt0)) ?_
    refine T_skip ?_
    refine T_seq ?_
    refine T_block ?_
    refine T_seq ?_
    refine T_region ?_
    refine TL_pure rfl rfl rfl rfl (op_index_sl el24 rfl rfl rfl (get_map hxn0) rfl) ?_
    refine TL_pure rfl rfl rfl rfl (op_load_agg ag62 sz62 rfl rfl rfl) ?_
    refine TL_alloc 14 z62 rfl rfl rfl rfl rfl rfl rfl ?_
    refine TL_store_box sz62 rfl rfl rfl rfl rfl rfl rfl rfl rfl ?_
    refine TL_nil ?_
    refine T_join (fun (j0 : List Bool) => ⟨[(1, .int .i64 p1), (5, .ow 11), (7, .ptr 14 0 0), (12, .sl 5 (List.map a_Node p0)), (13, .int .i64 (p0.length : Int)), (14, .int .i64 (n0 : Int))], [(11, .arr ⟨false, false⟩ 1 4 (List.map a_bool j0)), (14, .box [.int .i64 x0.Kind, .int .i64 x0.Fact, .int .i64 x0.Term.Const, .sl 1 (List.map a_i64 x0.Term.Coeffs), .sl 1 (List.map a_i64 x0.Multipliers)])]⟩) (fun j0 => m_impl_used_J0 p1 x0 j0 = some c0) (fun j0 hm => ?_) (fun hj0 => ?_)
    · unfold m_impl_used_J0 at hm
      refine T_seq ?_
      refine T_region ?_
      refine TL_pure rfl rfl rfl rfl (op_fieldAddr fa62_3 rfl rfl) ?_
      refine TL_pure rfl rfl rfl rfl (op_load_one ag32 rfl rfl) ?_
      refine TL_pure rfl rfl rfl rfl (op_lenT Try.underlying32 rfl (List.length_map _)) ?_
      refine TL_fact (fun _ _ _ hr => RelP.slLen (i := 32) rfl hr) (fun hlen33 => ?_)
      rw [List.length_map] at hlen33
      refine TL_pure rfl rfl rfl rfl (op_move rfl) ?_
      refine TL_nil ?_
      refine T_block ?_
      refine T_keepH [1, 5, 12, 13, 14, 32, 33, 34] [11] rfl rfl rfl rfl (by rw [hF]; rfl) ?_
      refine T_loop ?_
      obtain ⟨u1, hl1, hm⟩ := bindS hm
      refine TR_forL2 x0.Multipliers (m_impl_used_L1 p1) (fun (s1 : List Bool) => s1) (fun n1 (s1 : List Bool) => ⟨[(1, .int .i64 p1), (5, .ow 11), (12, .sl 5 (List.map a_Node p0)), (13, .int .i64 (p0.length : Int)), (14, .int .i64 (n0 : Int)), (32, .sl 1 (List.map a_i64 x0.Multipliers)), (33, .int .i64 (x0.Multipliers.length : Int)), (34, .int .i64 (n1 : Int))], [(11, .arr ⟨false, false⟩ 1 4 (List.map a_bool s1))]⟩) (fun u1 => .exit 2) (fun u1 => ⟨[(1, .int .i64 p1), (5, .ow 11), (12, .sl 5 (List.map a_Node p0)), (13, .int .i64 (p0.length : Int)), (14, .int .i64 (n0 : Int))], [(11, .arr ⟨false, false⟩ 1 4 (List.map a_bool u1))]⟩) (fun u1 => m_impl_used_A1 u1 = some c0) hl1 hm (fun u1 hm => ?_) (fun hx1 s1 hm => ?_) (fun hx1 n1 x1 s1 c1 hxn1 hlt1 hm hc1 => ?_)
      · unfold m_impl_used_A1 at hm
        refine T_region ?_
        refine TL_pure rfl rfl rfl rfl (op_addN rfl rfl (Nat.lt_of_lt_of_le hlt0 hlen13)) ?_
        refine TL_pure rfl rfl rfl rfl (op_move rfl) ?_
        refine TL_nil ?_
        refine TR_keepH [1, 5, 12, 13, 14] [11] rfl rfl rfl rfl (by rw [hF]; rfl) ?_
        obtain rfl := someI hm
        have hn := CtlOK_next hc0
        exact hn _ rfl
      · refine T_seq ?_
        refine T_region ?_
        refine TL_pure rfl rfl rfl rfl (op_lss rfl rfl) ?_
        refine TL_nil ?_
        refine T_seq ?_
        refine T_if_false rfl (decide_eq_false (by simp)) ?_
        refine T_keepH [1, 5, 12, 13, 14] [11] rfl rfl rfl rfl (by rw [hF]; rfl) ?_
        refine T_exit ?_
        exact hx1 s1 hm
      · unfold m_impl_used_L1 at hm
        refine T_seq ?_
        refine T_region ?_
        refine TL_pure rfl rfl rfl rfl (op_lss rfl rfl) ?_
        refine TL_nil ?_
        refine T_seq ?_
        refine T_if_true rfl (decide_eq_true (Int.ofNat_lt.2 hlt1)) ?_
        refine T_skip ?_
        refine T_seq ?_
        refine T_block ?_
        refine T_seq ?_
        refine T_region ?_
        refine TL_pure rfl rfl rfl rfl (op_move rfl) ?_
        refine TL_pure rfl rfl rfl rfl (op_index_sl el32 rfl rfl rfl (get_map hxn1) rfl) ?_
        refine TL_pure rfl rfl rfl rfl (op_load_one ag2 rfl rfl) ?_
        refine TL_pure rfl rfl rfl rfl (op_assign rfl) ?_
        refine TL_pure rfl rfl rfl rfl (op_assign rfl) ?_
        refine TL_nil ?_
        refine T_seq ?_
        refine T_region ?_
        refine TL_pure rfl rfl rfl rfl (op_move rfl) ?_
        refine TL_pure rfl rfl rfl rfl (op_neq rfl rfl) ?_
        refine TL_pure rfl rfl rfl rfl (op_move rfl) ?_
        refine TL_join 4 (fun _ : Unit => ⟨[(1, .int .i64 p1), (5, .ow 11), (8, .int .i64 (n1 : Int)), (12, .sl 5 (List.map a_Node p0)), (13, .int .i64 (p0.length : Int)), (14, .int .i64 (n0 : Int)), (32, .sl 1 (List.map a_i64 x0.Multipliers)), (33, .int .i64 (x0.Multipliers.length : Int)), (34, .int .i64 (n1 : Int)), (45, .bool ((!decide (x1 = (0 : Int))) && (decide ((n1 : Int) < p1))))], [(11, .arr ⟨false, false⟩ 1 4 (List.map a_bool s1))]⟩) (fun _ => True) (fun _ _ => ?_) (fun hjj => ?_)
        · refine TL_nil ?_
          refine T_cond rfl (fun hq => ?_) (fun hq => ?_)
          · replace hm := condT hq hm
            refine T_region ?_
            refine TL_pure rfl rfl rfl rfl (op_move rfl) ?_
            refine TL_pure rfl rfl rfl rfl (op_move rfl) ?_
            obtain ⟨x48, hx48, hm⟩ := bindS hm
            refine TL_pure rfl rfl rfl rfl (op_indexO el124 rfl rfl rfl hx48) ?_
            refine TL_storeT sz4 rfl rfl ((getI_spec hx48).2) (v' := true) rfl rfl rfl rfl rfl rfl rfl rfl rfl rfl ?_
            refine TL_nil ?_
            refine T_region ?_
            refine TL_pure rfl rfl rfl rfl (op_addN rfl rfl (Nat.lt_of_lt_of_le hlt1 hlen33)) ?_
            refine TL_pure rfl rfl rfl rfl (op_move rfl) ?_
            refine TL_nil ?_
            refine TR_keepH [1, 5, 12, 13, 14, 32, 33, 34] [11] rfl rfl rfl rfl (by rw [hF]; rfl) ?_
            obtain rfl := someI hm
            have hn := CtlOK_next hc1
            exact hn _ rfl
          · replace hm := condF hq hm
            refine T_skip ?_
            refine T_region ?_
            refine TL_pure rfl rfl rfl rfl (op_addN rfl rfl (Nat.lt_of_lt_of_le hlt1 hlen33)) ?_
            refine TL_pure rfl rfl rfl rfl (op_move rfl) ?_
            refine TL_nil ?_
            refine TR_keepH [1, 5, 12, 13, 14, 32, 33, 34] [11] rfl rfl rfl rfl (by rw [hF]; rfl) ?_
            obtain rfl := someI hm
            have hn := CtlOK_next hc1
            exact hn _ rfl
        · refine TL_split 41 rfl rfl rfl (fun hq => ?_) (fun hq => ?_)
          · refine TL_want rfl rfl ?_
            refine TL_pure rfl rfl rfl rfl (op_move rfl) ?_
            refine TL_want rfl rfl ?_
            refine TL_pure rfl rfl rfl rfl (op_move rfl) ?_
            refine TL_want rfl rfl ?_
            refine TL_pure rfl rfl rfl rfl (op_lss rfl rfl) ?_
            refine TL_pure rfl rfl rfl rfl (op_pick_true rfl rfl) ?_
            refine TL_keepH [1, 5, 8, 12, 13, 14, 32, 33, 34, 45] [11] rfl rfl rfl rfl (by rw [hF]; rfl) ?_
            exact TL_cast _ (by first | (rw [hq, Bool.true_and]; done) | (rw [hq]; rfl)) (hjj () trivial)
          · refine TL_pass rfl rfl rfl rfl rfl rfl rfl ?_
            refine TL_pass rfl rfl rfl rfl rfl rfl rfl ?_
            refine TL_pass rfl rfl rfl rfl rfl rfl rfl ?_
            refine TL_pure rfl rfl rfl rfl (op_pick_false rfl rfl) ?_
            refine TL_keepH [1, 5, 8, 12, 13, 14, 32, 33, 34, 45] [11] rfl rfl rfl rfl (by rw [hF]; rfl) ?_
            exact TL_cast _ (by first | (rw [hq, Bool.false_and]; done) | (rw [hq]; rfl)) (hjj () trivial)
    · refine T_seq ?_
      refine T_region ?_
      refine TL_pure rfl rfl rfl rfl (op_fieldAddr fa62_0 rfl rfl) ?_
      refine TL_pure rfl rfl rfl rfl (op_load_one ag2 rfl rfl) ?_
      refine TL_pure rfl rfl rfl rfl (op_eql rfl rfl) ?_
      refine TL_pure rfl rfl rfl rfl (op_move rfl) ?_
      refine TL_join 5 (fun _ : Unit => ⟨[(1, .int .i64 p1), (5, .ow 11), (7, .ptr 14 0 0), (12, .sl 5 (List.map a_Node p0)), (13, .int .i64 (p0.length : Int)), (14, .int .i64 (n0 : Int)), (26, .bool ((decide (x0.Kind = (3 : Int))) && (decide (x0.Fact < p1))))], [(11, .arr ⟨false, false⟩ 1 4 (List.map a_bool s0)), (14, .box [.int .i64 x0.Kind, .int .i64 x0.Fact, .int .i64 x0.Term.Const, .sl 1 (List.map a_i64 x0.Term.Coeffs), .sl 1 (List.map a_i64 x0.Multipliers)])]⟩) (fun _ => True) (fun _ _ => ?_) (fun hjj => ?_)
      · refine TL_nil ?_
        refine T_cond rfl (fun hq => ?_) (fun hq => ?_)
        · replace hm := condT hq hm
          refine T_region ?_
          refine TL_pure rfl rfl rfl rfl (op_move rfl) ?_
          refine TL_pure rfl rfl rfl rfl (op_fieldAddr fa62_1 rfl rfl) ?_
          refine TL_pure rfl rfl rfl rfl (op_load_one ag2 rfl rfl) ?_
          obtain ⟨x30, hx30, hm⟩ := bindS hm
          refine TL_pure rfl rfl rfl rfl (op_indexO el124 rfl rfl rfl hx30) ?_
          refine TL_storeT sz4 rfl rfl ((getI_spec hx30).2) (v' := true) rfl rfl rfl rfl rfl rfl rfl rfl rfl rfl ?_
          refine TL_nil ?_
          refine T_keepH [1, 5, 7, 12, 13, 14] [11, 14] rfl rfl rfl rfl (by rw [hF]; rfl) ?_
          exact hj0 (s0.set ((x0.Fact).toNat) true) hm
        · replace hm := condF hq hm
          refine T_skip ?_
          refine T_keepH [1, 5, 7, 12, 13, 14] [11, 14] rfl rfl rfl rfl (by rw [hF]; rfl) ?_
          exact hj0 s0 hm
      · refine TL_split 21 rfl rfl rfl (fun hq => ?_) (fun hq => ?_)
        · refine TL_want rfl rfl ?_
          refine TL_pure rfl rfl rfl rfl (op_fieldAddr fa62_1 rfl rfl) ?_
          refine TL_want rfl rfl ?_
          refine TL_pure rfl rfl rfl rfl (op_load_one ag2 rfl rfl) ?_
          refine TL_want rfl rfl ?_
          refine TL_pure rfl rfl rfl rfl (op_move rfl) ?_
          refine TL_want rfl rfl ?_
          refine TL_pure rfl rfl rfl rfl (op_lss rfl rfl) ?_
          refine TL_pure rfl rfl rfl rfl (op_pick_true rfl rfl) ?_
          refine TL_keepH [1, 5, 7, 12, 13, 14, 26] [11, 14] rfl rfl rfl rfl (by rw [hF]; rfl) ?_
          exact TL_cast _ (by first | (rw [hq, Bool.true_and]; done) | (rw [hq]; rfl)) (hjj () trivial)
        · refine TL_pass rfl rfl rfl rfl rfl rfl rfl ?_
          refine TL_pass rfl rfl rfl rfl rfl rfl rfl ?_
          refine TL_pass rfl rfl rfl rfl rfl rfl rfl ?_
          refine TL_pass rfl rfl rfl rfl rfl rfl rfl ?_
          refine TL_pure rfl rfl rfl rfl (op_pick_false rfl rfl) ?_
          refine TL_keepH [1, 5, 7, 12, 13, 14, 26] [11, 14] rfl rfl rfl rfl (by rw [hF]; rfl) ?_
          exact TL_cast _ (by first | (rw [hq, Bool.false_and]; done) | (rw [hq]; rfl)) (hjj () trivial)
theorem c_impl_UsedFacts (p0 : Sequent) (p1 : List Node) (out : (List Int) × Bool) (hm : m_impl_UsedFacts p0 p1 = some out) : ACall Try.prog 37 [.agg [.sl 2 (List.map a_Term p0.Facts), .int .i64 p0.Goal.Const, .sl 1 (List.map a_i64 p0.Goal.Coeffs)], .sl 5 (List.map a_Node p1)] [] (.tup [.ow 1000, .bool out.2]) [(1000, .arr ⟨false, true⟩ 1 2 (List.map a_i64 out.1))] := by
  refine ACall.intro Try.func37 rfl Try.ntmps37 rfl (fun F hF => ?_)
  unfold m_impl_UsedFacts at hm
  refine T_seq ?_
  refine T_region ?_
  refine TL_box 11 rfl rfl rfl rfl rfl rfl rfl ?_
  refine TL_pure rfl rfl rfl rfl (op_assign rfl) ?_
  refine TL_pure rfl rfl rfl rfl (op_assign rfl) ?_
  refine TL_nil ?_
  refine T_seq ?_
  refine T_seq ?_
  refine T_region ?_
  refine TL_pure rfl rfl rfl rfl (op_load_agg ag42 sz42 rfl rfl rfl) ?_
  refine TL_pure rfl rfl rfl rfl (op_move rfl) ?_
  obtain ⟨r11, hr11, hm⟩ := bindS hm
  refine TL_callF (c_impl_CheckProof p0 p1 r11 hr11) Try.call28 rfl rfl rfl rfl rfl ?_
  refine TL_pure rfl rfl rfl rfl (op_not rfl) ?_
  refine TL_nil ?_
  refine T_cond rfl (fun hq => ?_) (fun hq => ?_)
  · replace hm := condT hq hm
    refine T_seq ?_
    refine T_region ?_
    refine TL_pure rfl rfl rfl rfl (op_assign rfl) ?_
    refine TL_pure rfl rfl rfl rfl (op_assign rfl) ?_
    refine TL_nil ?_
    refine T_ownNil 4 12 ⟨false, true⟩ 2 rfl rfl (sz := 1) rfl rfl rfl ?_
    refine T_keepH [4, 5] [12] rfl rfl rfl rfl (by rw [hF]; rfl) ?_
    refine T_ren [(12, 1000)] rfl rfl rfl (by rw [hF]; rfl) ?_
    refine T_ret ?_
    obtain rfl := someI hm
    refine ⟨[_, _], [1000], ⟨rfl, rfl, trivial⟩, ?_, rfl, rfl, rfl, rfl⟩
    rfl
  · replace hm := condF hq hm
    refine T_skip ?_
    refine T_seq ?_
    refine T_region ?_
    refine TL_pure rfl rfl rfl rfl (op_assign rfl) ?_
    refine TL_nil ?_
    refine T_seq ?_
    refine T_seq ?_
    refine T_region ?_
    refine TL_pure rfl rfl rfl rfl (op_move rfl) ?_
    refine TL_pure rfl rfl rfl rfl (op_fieldAddr fa42_0 rfl rfl) ?_
    refine TL_pure rfl rfl rfl rfl (op_load_one ag39 rfl rfl) ?_
    refine TL_pure rfl rfl rfl rfl (op_lenT Try.underlying39 rfl (List.length_map _)) ?_
    refine TL_fact (fun _ _ _ hr => RelP.slLen (i := 15) rfl hr) (fun hlen16 => ?_)
    rw [List.length_map] at hlen16
    refine TL_pure rfl rfl rfl rfl (op_addW rfl rfl) ?_
    obtain ⟨r18, hr18, hm⟩ := bindS hm
    refine TL_callO [(1000, 13)] (c_impl_used p1 (w64 ((p0.Facts.length : Int) + (1 : Int))) r18 hr18) Try.call91 rfl rfl rfl rfl rfl rfl rfl rfl rfl rfl rfl rfl rfl ?_
    refine TL_pure rfl rfl rfl rfl (op_lenO Try.underlying124 rfl rfl (List.length_map _)) ?_
    refine TL_fact (fun _ _ _ hr => RelP.owLen (id := 13) rfl hr) (fun hlen19 => ?_)
    rw [List.length_map] at hlen19
    refine TL_pure rfl rfl rfl rfl (op_move rfl) ?_
    refine TL_nil ?_
    refine T_block ?_
    refine T_ownNil 6 18 ⟨false, false⟩ 2 rfl rfl (sz := 1) rfl rfl rfl ?_
    refine T_keepH [6, 18, 19, 20] [13, 18] rfl rfl rfl rfl (by rw [hF]; rfl) ?_
    refine T_ren [(13, 13), (18, 70000)] rfl rfl rfl (by rw [hF]; rfl) ?_
    refine T_loop ?_
    obtain ⟨u0, hl0, hm⟩ := bindS hm
    refine TR_forL2 r18 (m_impl_UsedFacts_L0) (fun (s0 : List Int) => s0) (fun n0 (s0 : List Int) => ⟨[(6, .ow 70000), (18, .ow 13), (19, .int .i64 (r18.length : Int)), (20, .int .i64 (n0 : Int))], [(13, .arr ⟨false, true⟩ 1 4 (List.map a_bool r18)), (70000, .arr ⟨false, false⟩ 1 2 (List.map a_i64 s0))]⟩) (fun u0 => .exit 0) (fun u0 => ⟨[(6, .ow 70000)], [(70000, .arr ⟨false, false⟩ 1 2 (List.map a_i64 u0))]⟩) (fun u0 => m_impl_UsedFacts_A0 u0 = some out) hl0 hm (fun u0 hm => ?_) (fun hx0 s0 hm => ?_) (fun hx0 n0 x0 s0 c0 hxn0 hlt0 hm hc0 => ?_)
    · unfold m_impl_UsedFacts_A0 at hm
      refine T_seq ?_
      refine T_region ?_
      refine TL_pure rfl rfl rfl rfl (op_move rfl) ?_
      refine TL_pure rfl rfl rfl rfl (op_assign rfl) ?_
      refine TL_pure rfl rfl rfl rfl (op_assign rfl) ?_
      refine TL_nil ?_
      refine T_keepH [4, 5] [70000] rfl rfl rfl rfl (by rw [hF]; rfl) ?_
      refine T_deepen 70000 (p' := false) (List.map a_i64 u0) (by rw [hF]; rfl) rfl (ElR.map (f := a_i64) (g := a_i64) (fun _ => ⟨⟨rfl, rfl⟩, trivial⟩) u0) rfl rfl rfl ?_
      refine T_ren [(70000, 1000)] rfl rfl rfl (by rw [hF]; rfl) ?_
      refine T_ret ?_
      obtain rfl := someI hm
      refine ⟨[_, _], [1000], ⟨rfl, rfl, trivial⟩, ?_, rfl, rfl, rfl, rfl⟩
      rfl
    · refine T_seq ?_
      refine T_region ?_
      refine TL_pure rfl rfl rfl rfl (op_lss rfl rfl) ?_
      refine TL_nil ?_
      refine T_seq ?_
      refine T_if_false rfl (decide_eq_false (by simp)) ?_
      refine T_keepH [6] [70000] rfl rfl rfl rfl (by rw [hF]; rfl) ?_
      refine T_exit ?_
      exact hx0 s0 hm
    · unfold m_impl_UsedFacts_L0 at hm
      refine T_seq ?_
      refine T_region ?_
      refine TL_pure rfl rfl rfl rfl (op_lss rfl rfl) ?_
      refine TL_nil ?_
      refine T_seq ?_
      refine T_if_true rfl (decide_eq_true (Int.ofNat_lt.2 hlt0)) ?_
      refine T_skip ?_
      refine T_seq ?_
      refine T_block ?_
      refine T_seq ?_
      refine T_region ?_
      refine TL_pure rfl rfl rfl rfl (op_move rfl) ?_
      refine TL_pure rfl rfl rfl rfl (op_index_ow el124 rfl rfl rfl rfl (by simpa using (List.getElem?_eq_some_iff.1 hxn0).1)) ?_
      refine TL_pure rfl rfl rfl rfl (op_loadD1 ag4 rfl rfl (hxn0) rfl rfl rfl rfl) ?_
      refine TL_pure rfl rfl rfl rfl (op_assign rfl) ?_
      refine TL_pure rfl rfl rfl rfl (op_assign rfl) ?_
      refine TL_nil ?_
      refine T_seq ?_
      refine T_region ?_
      refine TL_pure rfl rfl rfl rfl (op_move rfl) ?_
      refine TL_nil ?_
      refine T_cond rfl (fun hq => ?_) (fun hq => ?_)
      · replace hm := condT hq hm
        refine T_region ?_
        refine TL_pure rfl rfl rfl rfl (op_move rfl) ?_
        refine TL_pure rfl rfl rfl rfl (op_move rfl) ?_
        refine TL_buildSlice 17 (es := List.map a_i64 [(n0 : Int)]) el32 z2 rfl rfl rfl rfl rfl rfl rfl rfl rfl ?_
        obtain ⟨q29, hq29, hm⟩ := bindS hm
        refine TL_appendT (f := a_i64) (a := s0) (b := [(n0 : Int)]) el32 z2 rfl rfl rfl rfl rfl rfl rfl (capI_spec hq29) rfl rfl rfl rfl rfl ?_
        refine TL_pure rfl rfl rfl rfl (op_assign rfl) ?_
        refine TL_nil ?_
        refine T_region ?_
        refine TL_pure rfl rfl rfl rfl (op_addN rfl rfl (Nat.lt_of_lt_of_le hlt0 hlen19)) ?_
        refine TL_pure rfl rfl rfl rfl (op_move rfl) ?_
        refine TL_nil ?_
        refine TR_keepH [6, 18, 19, 20] [13, 70000] rfl rfl rfl rfl (by rw [hF]; rfl) ?_
        obtain rfl := someI hm
        have hn := CtlOK_next hc0
        exact hn _ rfl
      · replace hm := condF hq hm
        refine T_skip ?_
        refine T_region ?_
        refine TL_pure rfl rfl rfl rfl (op_addN rfl rfl (Nat.lt_of_lt_of_le hlt0 hlen19)) ?_
        refine TL_pure rfl rfl rfl rfl (op_move rfl) ?_
        refine TL_nil ?_
        refine TR_keepH [6, 18, 19, 20] [13, 70000] rfl rfl rfl rfl (by rw [hF]; rfl) ?_
        obtain rfl := someI hm
        have hn := CtlOK_next hc0
        exact hn _ rfl
theorem c_impl_ownNodes (p0 : List Node) (out : List Node) (hm : m_impl_ownNodes p0 = some out) : ACall Try.prog 52 [.sl 5 (List.map a_Node p0)] [] (.ow 1000) [(1000, .arr ⟨false, true⟩ 5 62 (List.map a_Node out))] := by
  refine ACall.intro Try.func52 rfl Try.ntmps52 rfl (fun F hF => ?_)
  unfold m_impl_ownNodes at hm
  refine T_seq ?_
  refine T_region ?_
  refine TL_pure rfl rfl rfl rfl (op_assign rfl) ?_
  refine TL_nil ?_
  refine T_seq ?_
  refine T_region ?_
  refine TL_pure rfl rfl rfl rfl (op_assign rfl) ?_
  refine TL_nil ?_
  refine T_seq ?_
  refine T_seq ?_
  refine T_region ?_
  refine TL_pure rfl rfl rfl rfl (op_move rfl) ?_
  refine TL_pure rfl rfl rfl rfl (op_lenT Try.underlying24 rfl (List.length_map _)) ?_
  refine TL_fact (fun _ _ _ hr => RelP.slLen (i := 6) rfl hr) (fun hlen7 => ?_)
  rw [List.length_map] at hlen7
  refine TL_pure rfl rfl rfl rfl (op_move rfl) ?_
  refine TL_nil ?_
  refine T_block ?_
  refine T_ownNil 3 30 ⟨false, true⟩ 62 rfl rfl (sz := 5) rfl rfl rfl ?_
  refine T_keepH [3, 6, 7, 8] [30] rfl rfl rfl rfl (by rw [hF]; rfl) ?_
  refine T_ren [(30, 70000)] rfl rfl rfl (by rw [hF]; rfl) ?_
  refine T_loop ?_
  obtain ⟨u0, hl0, hm⟩ := bindS hm
  refine TR_forL2 p0 (m_impl_ownNodes_L0) (fun (s0 : List Node) => s0) (fun n0 (s0 : List Node) => ⟨[(3, .ow 70000), (6, .sl 5 (List.map a_Node p0)), (7, .int .i64 (p0.length : Int)), (8, .int .i64 (n0 : Int))], [(70000, .arr ⟨false, true⟩ 5 62 (List.map a_Node s0))]⟩) (fun u0 => .exit 0) (fun u0 => ⟨[(3, .ow 70000)], [(70000, .arr ⟨false, true⟩ 5 62 (List.map a_Node u0))]⟩) (fun u0 => m_impl_ownNodes_A0 u0 = some out) hl0 hm (fun u0 hm => ?_) (fun hx0 s0 hm => ?_) (fun hx0 n0 x0 s0 c0 hxn0 hlt0 hm hc0 => ?_)
  · unfold m_impl_ownNodes_A0 at hm
    refine T_seq ?_
    refine T_region ?_
    refine TL_pure rfl rfl rfl rfl (op_move rfl) ?_
    refine TL_pure rfl rfl rfl rfl (op_assign rfl) ?_
    refine TL_nil ?_
    refine T_keepH [2] [70000] rfl rfl rfl rfl (by rw [hF]; rfl) ?_
    refine T_ren [(70000, 1000)] rfl rfl rfl (by rw [hF]; rfl) ?_
    refine T_ret ?_
    obtain rfl := someI hm
    refine ⟨[_], [1000], ⟨rfl, trivial⟩, ?_, rfl, rfl, rfl, rfl⟩
    rfl
  · refine T_seq ?_
    refine T_region ?_
    refine TL_pure rfl rfl rfl rfl (op_lss rfl rfl) ?_
    refine TL_nil ?_
    refine T_seq ?_
    refine T_if_false rfl (decide_eq_false (by simp)) ?_
    refine T_keepH [3] [70000] rfl rfl rfl rfl (by rw [hF]; rfl) ?_
    refine T_exit ?_
    exact hx0 s0 hm
  · unfold m_impl_ownNodes_L0 at hm
    refine T_seq ?_
    refine T_region ?_
    refine TL_pure rfl rfl rfl rfl (op_lss rfl rfl) ?_
    refine TL_nil ?_
    refine T_seq ?_
    refine T_if_true rfl (decide_eq_true (Int.ofNat_lt.2 hlt0)) ?_
    refine T_skip ?_
    refine T_seq ?_
    refine T_block ?_
    refine T_seq ?_
    refine T_region ?_
    refine TL_pure rfl rfl rfl rfl (op_index_sl el24 rfl rfl rfl (get_map hxn0) rfl) ?_
    refine TL_pure rfl rfl rfl rfl (op_load_agg ag62 sz62 rfl rfl rfl) ?_
    refine TL_alloc 24 z62 rfl rfl rfl rfl rfl rfl rfl ?_
    refine TL_store_box sz62 rfl rfl rfl rfl rfl rfl rfl rfl rfl ?_
    refine TL_nil ?_
    refine T_seq ?_
    refine T_drawZ [7, 9] mix (by kernel_rfl) rfl ?_
    obtain ⟨r14, hr14, hm⟩ := bindS hm
    obtain ⟨r17, hr17, hm⟩ := bindS hm
    refine TZ_pure 0 (by kernel_rfl) rfl rfl rfl rfl rfl (op_fieldAddr fa62_2 rfl rfl) ?_
    refine TZ_pure 1 (by kernel_rfl) rfl rfl rfl rfl rfl (op_load_agg ag40 sz40 rfl rfl rfl) ?_
    refine TZ_pure 3 (by kernel_rfl) rfl rfl rfl rfl rfl (op_fieldAddr fa62_3 rfl rfl) ?_
    refine TZ_pure 4 (by kernel_rfl) rfl rfl rfl rfl rfl (op_load_one ag32 rfl rfl) ?_
    refine TZ_one 2 (by kernel_rfl) rfl ?_
    refine TL_callO [(1000, 27)] (c_impl_Term_own x0.Term r14 hr14) Try.call89 rfl rfl rfl rfl rfl rfl rfl rfl rfl rfl rfl rfl rfl ?_
    refine TL_nil ?_
    refine TZ_pure 6 (by kernel_rfl) rfl rfl rfl rfl rfl (op_fieldAddr fa62_2 rfl rfl) ?_
    refine TZ_one 5 (by kernel_rfl) rfl ?_
    refine TL_callO [(1000, 28)] (c_impl_copyInts x0.Multipliers r17 hr17) Try.call106 rfl rfl rfl rfl rfl rfl rfl rfl rfl rfl rfl rfl rfl ?_
    refine TL_nil ?_
    refine TZ_one 7 (by kernel_rfl) rfl ?_
    refine TL_store_box sz40 rfl rfl rfl rfl rfl rfl rfl rfl rfl ?_
    refine TL_nil ?_
    refine TZ_pure 8 (by kernel_rfl) rfl rfl rfl rfl rfl (op_fieldAddr fa62_3 rfl rfl) ?_
    refine TZ_one 9 (by kernel_rfl) rfl ?_
    refine TL_store_box sz32 rfl rfl rfl rfl rfl rfl rfl rfl rfl ?_
    refine TL_nil ?_
    refine TZ_done (by kernel_rfl) ?_
    refine T_region ?_
    refine TL_pure rfl rfl rfl rfl (op_move rfl) ?_
    refine TL_pure rfl rfl rfl rfl (op_load_agg ag62 sz62 rfl rfl rfl) ?_
    refine TL_buildSliceD (ids := [27, 28]) (es := List.map a_Node [(Node.mk x0.Kind x0.Fact r14 r17)]) 29 el24 z62 rfl rfl rfl rfl rfl rfl (by rw [hF]; intro j hj; simp only [List.mem_cons, List.not_mem_nil, or_false] at hj; rcases hj with rfl | rfl <;> rfl) rfl rfl rfl rfl rfl rfl ?_
    obtain ⟨q23, hq23, hm⟩ := bindS hm
    refine TL_appendDT (f := a_Node) (a := s0) (b := [(Node.mk x0.Kind x0.Fact r14 r17)]) el24 z62 rfl rfl rfl rfl rfl rfl rfl rfl (by rw [hF]; rfl) (capI_spec hq23) rfl rfl rfl rfl rfl ?_
    refine TL_pure rfl rfl rfl rfl (op_assign rfl) ?_
    refine TL_nil ?_
    refine T_region ?_
    refine TL_pure rfl rfl rfl rfl (op_addN rfl rfl (Nat.lt_of_lt_of_le hlt0 hlen7)) ?_
    refine TL_pure rfl rfl rfl rfl (op_move rfl) ?_
    refine TL_nil ?_
    refine TR_keepH [3, 6, 7, 8] [70000] rfl rfl rfl rfl (by rw [hF]; rfl) ?_
    obtain rfl := someI hm
    have hn := CtlOK_next hc0
    exact hn _ rfl
theorem c_impl_DropUnused_2 (p0 : Int) (p1_0 : List Int) (p2_0 : Int) (out : Int) (hm : m_impl_DropUnused_2 p0 p1_0 p2_0 = some out) : ACall Try.prog 93 [.int .i64 p0, .cp [.sl 1 (List.map a_i64 p1_0)], .cp [.int .i64 p2_0]] [] (.int .i64 out) [] := by
  refine ACall.intro Try.func93 rfl Try.ntmps93 rfl (fun F hF => ?_)
  unfold m_impl_DropUnused_2 at hm
  refine T_seq ?_
  refine T_region ?_
  refine TL_pure rfl rfl rfl rfl (op_assign rfl) ?_
  refine TL_nil ?_
  refine T_seq ?_
  refine T_seq ?_
  refine T_region ?_
  refine TL_pure rfl rfl rfl rfl (op_move rfl) ?_
  refine TL_pure rfl rfl rfl rfl (op_load_one ag96 rfl rfl) ?_
  refine TL_pure rfl rfl rfl rfl (op_lenT Try.underlying96 rfl (List.length_map _)) ?_
  refine TL_fact (fun _ _ _ hr => RelP.slLen (i := 6) rfl hr) (fun hlen7 => ?_)
  rw [List.length_map] at hlen7
  refine TL_pure rfl rfl rfl rfl (op_lss rfl rfl) ?_
  refine TL_nil ?_
  refine T_cond rfl (fun hq => ?_) (fun hq => ?_)
  · replace hm := condT hq hm
    refine T_seq ?_
    refine T_region ?_
    refine TL_pure rfl rfl rfl rfl (op_load_one ag96 rfl rfl) ?_
    refine TL_pure rfl rfl rfl rfl (op_move rfl) ?_
    obtain ⟨x11, hx11, hm⟩ := bindS hm
    refine TL_pure rfl rfl rfl rfl (op_indexT el96 rfl rfl hx11 rfl) ?_
    refine TL_pure rfl rfl rfl rfl (op_load_one ag3 rfl rfl) ?_
    refine TL_pure rfl rfl rfl rfl (op_assign rfl) ?_
    refine TL_nil ?_
    refine T_keepH [4] [] rfl rfl rfl rfl (by rw [hF]; rfl) ?_
    refine T_ret ?_
    obtain rfl := someI hm
    refine ⟨[_], [], ⟨rfl, trivial⟩, ?_, rfl, rfl, rfl, rfl⟩
    rfl
  · replace hm := condF hq hm
    refine T_skip ?_
    refine T_seq ?_
    refine T_region ?_
    refine TL_pure rfl rfl rfl rfl (op_move rfl) ?_
    refine TL_pure rfl rfl rfl rfl (op_load_one ag3 rfl rfl) ?_
    refine TL_pure rfl rfl rfl rfl (op_subW rfl rfl) ?_
    refine TL_pure rfl rfl rfl rfl (op_assign rfl) ?_
    refine TL_nil ?_
    refine T_keepH [4] [] rfl rfl rfl rfl (by rw [hF]; rfl) ?_
    refine T_ret ?_
    obtain rfl := someI hm
    refine ⟨[_], [], ⟨rfl, trivial⟩, ?_, rfl, rfl, rfl, rfl⟩
    rfl
theorem c_impl_DropUnused_1 (p0 : Int) (p1_0 : Int) (out : Int) (hm : m_impl_DropUnused_1 p0 p1_0 = some out) : ACall Try.prog 92 [.int .i64 p0, .cp [.int .i64 p1_0]] [] (.int .i64 out) [] := by
  refine ACall.intro Try.func92 rfl Try.ntmps92 rfl (fun F hF => ?_)
  unfold m_impl_DropUnused_1 at hm
  refine T_seq ?_
  refine T_region ?_
  refine TL_pure rfl rfl rfl rfl (op_assign rfl) ?_
  refine TL_nil ?_
  refine T_seq ?_
  refine T_region ?_
  refine TL_pure rfl rfl rfl rfl (op_move rfl) ?_
  refine TL_pure rfl rfl rfl rfl (op_load_one ag3 rfl rfl) ?_
  refine TL_pure rfl rfl rfl rfl (op_subW rfl rfl) ?_
  refine TL_pure rfl rfl rfl rfl (op_assign rfl) ?_
  refine TL_nil ?_
  refine T_keepH [3] [] rfl rfl rfl rfl (by rw [hF]; rfl) ?_
  refine T_ret ?_
  obtain rfl := someI hm
  refine ⟨[_], [], ⟨rfl, trivial⟩, ?_, rfl, rfl, rfl, rfl⟩
  rfl
theorem c_impl_movedNodes_fDropUnused_1_DropUnused_2 (p0 : List Node) (v1_0_0 : Int) (v2_0_0 : List Int) (v2_1_0 : Int) (out : List Node) (hm : m_impl_movedNodes_fDropUnused_1_DropUnused_2 p0 v1_0_0 v2_0_0 v2_1_0 = some out) : ACall Try.prog 84 [.sl 5 (List.map a_Node p0), .fn (.func 92) [] [.cp [.int .i64 v1_0_0]], .fn (.func 93) [] [.cp [.sl 1 (List.map a_i64 v2_0_0)], .cp [.int .i64 v2_1_0]]] [] (.sl 5 (List.map a_Node out)) [] := by
  refine ACall.intro Try.func84 rfl Try.ntmps84 rfl (fun F hF => ?_)
  unfold m_impl_movedNodes_fDropUnused_1_DropUnused_2 at hm
  refine T_seq ?_
  refine T_region ?_
  refine TL_pure rfl rfl rfl rfl (op_assign rfl) ?_
  refine TL_nil ?_
  refine T_seq ?_
  refine T_region ?_
  refine TL_pure rfl rfl rfl rfl (op_move rfl) ?_
  obtain ⟨r15, hr15, hm⟩ := bindS hm
  refine TL_callO [(1000, 11)] (c_impl_ownNodes p0 r15 hr15) Try.call52 rfl rfl rfl rfl rfl rfl rfl rfl rfl rfl rfl rfl rfl ?_
  refine TL_shallow 11 (by rw [hF]; rfl) rfl rfl rfl rfl ?_
  refine TL_pure rfl rfl rfl rfl (op_assign rfl) ?_
  refine TL_nil ?_
  refine T_seq ?_
  refine T_seq ?_
  refine T_region ?_
  refine TL_pure rfl rfl rfl rfl (op_move rfl) ?_
  refine TL_pure rfl rfl rfl rfl (op_lenO Try.underlying24 rfl rfl (List.length_map _)) ?_
  refine TL_fact (fun _ _ _ hr => RelP.owLen (id := 11) rfl hr) (fun hlen17 => ?_)
  rw [List.length_map] at hlen17
  refine TL_pure rfl rfl rfl rfl (op_move rfl) ?_
  refine TL_nil ?_
  refine T_block ?_
  refine T_keepH [1, 2, 7, 16, 17, 18] [11] rfl rfl rfl rfl (by rw [hF]; rfl) ?_
  refine T_loop ?_
  obtain ⟨u0, hl0, hm⟩ := bindS hm
  refine TR_iter2 (m_impl_movedNodes_fDropUnused_1_DropUnused_2_L0 v1_0_0 v2_0_0 v2_1_0 r15) (fun (s0 : (List Node) × Int) => ⟨[(1, .fn (.func 92) [] [.cp [.int .i64 v1_0_0]]), (2, .fn (.func 93) [] [.cp [.sl 1 (List.map a_i64 v2_0_0)], .cp [.int .i64 v2_1_0]]), (7, .ow 11), (16, .ow 11), (17, .int .i64 (r15.length : Int)), (18, .int .i64 s0.2)], [(11, .arr ⟨false, false⟩ 5 62 (List.map a_Node s0.1))]⟩) (fun u0 => .exit 0) (fun u0 => ⟨[(7, .ow 11)], [(11, .arr ⟨false, false⟩ 5 62 (List.map a_Node u0))]⟩) (fun u0 => m_impl_movedNodes_fDropUnused_1_DropUnused_2_A0 u0 = some out) hl0 hm (fun u0 hm => ?_) (fun hx0 s0 c0 hm hc0 => ?_)
  · unfold m_impl_movedNodes_fDropUnused_1_DropUnused_2_A0 at hm
    refine T_seq ?_
    refine T_region ?_
    refine TL_pure rfl rfl rfl rfl (op_move rfl) ?_
    refine TL_pure rfl rfl rfl rfl (op_assign rfl) ?_
    refine TL_nil ?_
    refine T_keepH [6] [11] rfl rfl rfl rfl (by rw [hF]; rfl) ?_
    refine T_freeze 11 (by rw [hF]; rfl) rfl rfl rfl ?_
    refine T_ret ?_
    obtain rfl := someI hm
    refine ⟨[_], [], ⟨rfl, trivial⟩, ?_, rfl, rfl, rfl, rfl⟩
    rfl
  · unfold m_impl_movedNodes_fDropUnused_1_DropUnused_2_L0 at hm
    refine T_seq ?_
    refine T_region ?_
    refine TL_pure rfl rfl rfl rfl (op_lss rfl rfl) ?_
    refine TL_nil ?_
    refine T_seq ?_
    refine T_cond rfl (fun hq => ?_) (fun hq => ?_)
    · replace hm := condT hq hm
      refine T_skip ?_
      refine T_seq ?_
      refine T_block ?_
      refine T_seq ?_
      refine T_region ?_
      refine TL_pure rfl rfl rfl rfl (op_move rfl) ?_
      obtain ⟨x21, hx21, hm⟩ := bindS hm
      refine TL_pure rfl rfl rfl rfl (op_indexO el24 rfl rfl rfl hx21) ?_
      refine TL_pure rfl rfl rfl rfl (op_loadTN ag62 sz62 rfl rfl ((getI_spec hx21).2) rfl rfl rfl) ?_
      refine TL_alloc 18 z62 rfl rfl rfl rfl rfl rfl rfl ?_
      refine TL_pure rfl rfl rfl rfl (op_assign rfl) ?_
      refine TL_store_box sz62 rfl rfl rfl rfl rfl rfl rfl rfl rfl ?_
      refine TL_nil ?_
      refine T_seq ?_
      refine T_region ?_
      refine TL_pure rfl rfl rfl rfl (op_fieldAddr fa62_0 rfl rfl) ?_
      refine TL_pure rfl rfl rfl rfl (op_load_one ag2 rfl rfl) ?_
      refine TL_nil ?_
      refine T_block ?_
      refine T_seq ?_
      refine T_region ?_
      refine TL_pure rfl rfl rfl rfl (op_eql rfl rfl) ?_
      refine TL_pure rfl rfl rfl rfl (op_assign rfl) ?_
      refine TL_nil ?_
      refine T_cond rfl (fun hq => ?_) (fun hq => ?_)
      · replace hm := condT hq hm
        refine T_region ?_
        refine TL_pure rfl rfl rfl rfl (op_move rfl) ?_
        refine TL_pure rfl rfl rfl rfl (op_move rfl) ?_
        refine TL_pure rfl rfl rfl rfl (op_move rfl) ?_
        refine TL_pure rfl rfl rfl rfl (op_fieldAddr fa62_1 rfl rfl) ?_
        refine TL_pure rfl rfl rfl rfl (op_load_one ag2 rfl rfl) ?_
        obtain ⟨r32, hr32, hm⟩ := bindS hm
        refine TL_callV rfl (c_impl_DropUnused_2 x21.Fact v2_0_0 v2_1_0 r32 hr32) Try.call93 rfl rfl rfl rfl rfl ?_
        refine TL_pure rfl rfl rfl rfl (op_indexO el24 rfl rfl rfl hx21) ?_
        refine TL_pure rfl rfl rfl rfl (op_fieldAddr fa62_1 rfl rfl) ?_
        refine TL_storeT sz2 rfl rfl ((getI_spec hx21).2) (v' := (Node.mk x21.Kind r32 x21.Term x21.Multipliers)) rfl rfl rfl rfl rfl rfl rfl rfl rfl rfl ?_
        refine TL_nil ?_
        refine T_region ?_
        refine TL_pure rfl rfl rfl rfl (op_addW rfl rfl) ?_
        refine TL_pure rfl rfl rfl rfl (op_move rfl) ?_
        refine TL_nil ?_
        refine TR_keepH [1, 2, 7, 16, 17, 18] [11] rfl rfl rfl rfl (by rw [hF]; rfl) ?_
        obtain rfl := someI hm
        have hn := CtlOK_next hc0
        exact hn _ rfl
      · replace hm := condF hq hm
        refine T_seq ?_
        refine T_region ?_
        refine TL_pure rfl rfl rfl rfl (op_eql rfl rfl) ?_
        refine TL_pure rfl rfl rfl rfl (op_assign rfl) ?_
        refine TL_nil ?_
        refine T_cond rfl (fun hq => ?_) (fun hq => ?_)
        · replace hm := condT hq hm
          refine T_seq ?_
          refine T_region ?_
          refine TL_pure rfl rfl rfl rfl (op_move rfl) ?_
          refine TL_pure rfl rfl rfl rfl (op_fieldAddr fa62_3 rfl rfl) ?_
          refine TL_pure rfl rfl rfl rfl (op_load_one ag32 rfl rfl) ?_
          refine TL_pure rfl rfl rfl rfl (op_lenT Try.underlying32 rfl (List.length_map _)) ?_
          refine TL_fact (fun _ _ _ hr => RelP.slLen (i := 39) rfl hr) (fun hlen40 => ?_)
          rw [List.length_map] at hlen40
          obtain ⟨r41, hr41, hm⟩ := bindS hm
          refine TL_callV rfl (c_impl_DropUnused_1 (x21.Multipliers.length : Int) v1_0_0 r41 hr41) Try.call92 rfl rfl rfl rfl rfl ?_
          obtain ⟨k42, hk42, hm⟩ := bindS hm
          refine TL_make 19 (n := k42) el32 z2 rfl rfl rfl rfl rfl rfl (makeI_spec hk42).1 (makeI_spec hk42).1 (makeI_spec hk42).2 rfl rfl rfl rfl ?_
          refine TL_nils 19 (List.map a_i64 (List.replicate k42 (0 : Int))) (by rw [hF]; rfl) rfl (ElR.rep (z := .int .i64 (0 : Int)) (g := a_i64) (x := (0 : Int)) ⟨⟨rfl, rfl⟩, trivial⟩ k42) rfl ?_
          refine TL_pure rfl rfl rfl rfl (op_assign rfl) ?_
          refine TL_nil ?_
          refine T_seq ?_
          refine T_seq ?_
          refine T_region ?_
          refine TL_pure rfl rfl rfl rfl (op_fieldAddr fa62_3 rfl rfl) ?_
          refine TL_pure rfl rfl rfl rfl (op_load_one ag32 rfl rfl) ?_
          refine TL_pure rfl rfl rfl rfl (op_lenT Try.underlying32 rfl (List.length_map _)) ?_
          refine TL_pure rfl rfl rfl rfl (op_move rfl) ?_
          refine TL_nil ?_
          refine T_block ?_
          refine T_keepH [1, 2, 7, 8, 10, 16, 17, 18, 44, 45, 46] [11, 19] rfl rfl rfl rfl (by rw [hF]; rfl) ?_
          refine T_loop ?_
          obtain ⟨u1, hl1, hm⟩ := bindS hm
          refine TR_forL2 x21.Multipliers (m_impl_movedNodes_fDropUnused_1_DropUnused_2_L1 v2_0_0 v2_1_0) (fun (s1 : List Int) => s1) (fun n1 (s1 : List Int) => ⟨[(1, .fn (.func 92) [] [.cp [.int .i64 v1_0_0]]), (2, .fn (.func 93) [] [.cp [.sl 1 (List.map a_i64 v2_0_0)], .cp [.int .i64 v2_1_0]]), (7, .ow 11), (8, .int .i64 s0.2), (10, .ow 19), (16, .ow 11), (17, .int .i64 (r15.length : Int)), (18, .int .i64 s0.2), (44, .sl 1 (List.map a_i64 x21.Multipliers)), (45, .int .i64 (x21.Multipliers.length : Int)), (46, .int .i64 (n1 : Int))], [(11, .arr ⟨false, false⟩ 5 62 (List.map a_Node s0.1)), (19, .arr ⟨false, false⟩ 1 2 (List.map a_i64 s1))]⟩) (fun u1 => .exit 3) (fun u1 => ⟨[(1, .fn (.func 92) [] [.cp [.int .i64 v1_0_0]]), (2, .fn (.func 93) [] [.cp [.sl 1 (List.map a_i64 v2_0_0)], .cp [.int .i64 v2_1_0]]), (7, .ow 11), (8, .int .i64 s0.2), (10, .ow 19), (16, .ow 11), (17, .int .i64 (r15.length : Int)), (18, .int .i64 s0.2)], [(11, .arr ⟨false, false⟩ 5 62 (List.map a_Node s0.1)), (19, .arr ⟨false, false⟩ 1 2 (List.map a_i64 u1))]⟩) (fun u1 => m_impl_movedNodes_fDropUnused_1_DropUnused_2_A1 s0 x21 u1 = some c0) hl1 hm (fun u1 hm => ?_) (fun hx1 s1 hm => ?_) (fun hx1 n1 x1 s1 c1 hxn1 hlt1 hm hc1 => ?_)
          · unfold m_impl_movedNodes_fDropUnused_1_DropUnused_2_A1 at hm
            refine T_region ?_
            refine TL_pure rfl rfl rfl rfl (op_move rfl) ?_
            refine TL_pure rfl rfl rfl rfl (op_move rfl) ?_
            refine TL_pure rfl rfl rfl rfl (op_move rfl) ?_
            refine TL_pure rfl rfl rfl rfl (op_indexO el24 rfl rfl rfl hx21) ?_
            refine TL_pure rfl rfl rfl rfl (op_fieldAddr fa62_3 rfl rfl) ?_
            refine TL_freeze 19 (by rw [hF]; rfl) rfl rfl rfl ?_
            refine TL_storeT sz32 rfl rfl ((getI_spec hx21).2) (v' := (Node.mk x21.Kind x21.Fact x21.Term u1)) rfl rfl rfl rfl rfl rfl rfl rfl rfl rfl ?_
            refine TL_nil ?_
            refine T_region ?_
            refine TL_pure rfl rfl rfl rfl (op_addW rfl rfl) ?_
            refine TL_pure rfl rfl rfl rfl (op_move rfl) ?_
            refine TL_nil ?_
            refine TR_keepH [1, 2, 7, 16, 17, 18] [11] rfl rfl rfl rfl (by rw [hF]; rfl) ?_
            obtain rfl := someI hm
            have hn := CtlOK_next hc0
            exact hn _ rfl
          · refine T_seq ?_
            refine T_region ?_
            refine TL_pure rfl rfl rfl rfl (op_lss rfl rfl) ?_
            refine TL_nil ?_
            refine T_seq ?_
            refine T_if_false rfl (decide_eq_false (by simp)) ?_
            refine T_keepH [1, 2, 7, 8, 10, 16, 17, 18] [11, 19] rfl rfl rfl rfl (by rw [hF]; rfl) ?_
            refine T_exit ?_
            exact hx1 s1 hm
          · unfold m_impl_movedNodes_fDropUnused_1_DropUnused_2_L1 at hm
            refine T_seq ?_
            refine T_region ?_
            refine TL_pure rfl rfl rfl rfl (op_lss rfl rfl) ?_
            refine TL_nil ?_
            refine T_seq ?_
            refine T_if_true rfl (decide_eq_true (Int.ofNat_lt.2 hlt1)) ?_
            refine T_skip ?_
            refine T_seq ?_
            refine T_block ?_
            refine T_seq ?_
            refine T_region ?_
            refine TL_pure rfl rfl rfl rfl (op_move rfl) ?_
            refine TL_pure rfl rfl rfl rfl (op_index_sl el32 rfl rfl rfl (get_map hxn1) rfl) ?_
            refine TL_pure rfl rfl rfl rfl (op_load_one ag2 rfl rfl) ?_
            refine TL_pure rfl rfl rfl rfl (op_assign rfl) ?_
            refine TL_pure rfl rfl rfl rfl (op_assign rfl) ?_
            refine TL_nil ?_
            refine T_seq ?_
            refine T_region ?_
            refine TL_pure rfl rfl rfl rfl (op_move rfl) ?_
            refine TL_pure rfl rfl rfl rfl (op_move rfl) ?_
            obtain ⟨r53, hr53, hm⟩ := bindS hm
            refine TL_callV rfl (c_impl_DropUnused_2 (n1 : Int) v2_0_0 v2_1_0 r53 hr53) Try.call93 rfl rfl rfl rfl rfl ?_
            refine TL_pure rfl rfl rfl rfl (op_assign rfl) ?_
            refine TL_nil ?_
            refine T_seq ?_
            refine T_region ?_
            refine TL_pure rfl rfl rfl rfl (op_move rfl) ?_
            refine TL_pure rfl rfl rfl rfl (op_geq rfl rfl) ?_
            refine TL_nil ?_
            refine T_cond rfl (fun hq => ?_) (fun hq => ?_)
            · replace hm := condT hq hm
              refine T_region ?_
              refine TL_pure rfl rfl rfl rfl (op_move rfl) ?_
              refine TL_pure rfl rfl rfl rfl (op_move rfl) ?_
              refine TL_pure rfl rfl rfl rfl (op_move rfl) ?_
              obtain ⟨x59, hx59, hm⟩ := bindS hm
              refine TL_pure rfl rfl rfl rfl (op_indexO el32 rfl rfl rfl hx59) ?_
              refine TL_storeT sz2 rfl rfl ((getI_spec hx59).2) (v' := x1) rfl rfl rfl rfl rfl rfl rfl rfl rfl rfl ?_
              refine TL_nil ?_
              refine T_region ?_
              refine TL_pure rfl rfl rfl rfl (op_addN rfl rfl (Nat.lt_of_lt_of_le hlt1 hlen40)) ?_
              refine TL_pure rfl rfl rfl rfl (op_move rfl) ?_
              refine TL_nil ?_
              refine TR_keepH [1, 2, 7, 8, 10, 16, 17, 18, 44, 45, 46] [11, 19] rfl rfl rfl rfl (by rw [hF]; rfl) ?_
              obtain rfl := someI hm
              have hn := CtlOK_next hc1
              exact hn _ rfl
            · replace hm := condF hq hm
              refine T_skip ?_
              refine T_region ?_
              refine TL_pure rfl rfl rfl rfl (op_addN rfl rfl (Nat.lt_of_lt_of_le hlt1 hlen40)) ?_
              refine TL_pure rfl rfl rfl rfl (op_move rfl) ?_
              refine TL_nil ?_
              refine TR_keepH [1, 2, 7, 8, 10, 16, 17, 18, 44, 45, 46] [11, 19] rfl rfl rfl rfl (by rw [hF]; rfl) ?_
              obtain rfl := someI hm
              have hn := CtlOK_next hc1
              exact hn _ rfl
        · replace hm := condF hq hm
          refine T_skip ?_
          refine T_region ?_
          refine TL_pure rfl rfl rfl rfl (op_addW rfl rfl) ?_
          refine TL_pure rfl rfl rfl rfl (op_move rfl) ?_
          refine TL_nil ?_
          refine TR_keepH [1, 2, 7, 16, 17, 18] [11] rfl rfl rfl rfl (by rw [hF]; rfl) ?_
          obtain rfl := someI hm
          have hn := CtlOK_next hc0
          exact hn _ rfl
    · replace hm := condF hq hm
      refine T_keepH [7] [11] rfl rfl rfl rfl (by rw [hF]; rfl) ?_
      refine T_exit ?_
      obtain rfl := someI hm
      have hn := CtlOK_out hc0
      exact hx0 s0.1 hn
theorem c_impl_DropUnused (p0 : Sequent) (p1 : List Node) (out : Sequent × (List Node) × Bool) (hm : m_impl_DropUnused p0 p1 = some out) : ACall Try.prog 38 [.agg [.sl 2 (List.map a_Term p0.Facts), .int .i64 p0.Goal.Const, .sl 1 (List.map a_i64 p0.Goal.Coeffs)], .sl 5 (List.map a_Node p1)] [] (.tup [.agg [.sl 2 (List.map a_Term out.1.Facts), .int .i64 out.1.Goal.Const, .sl 1 (List.map a_i64 out.1.Goal.Coeffs)], .sl 5 (List.map a_Node out.2.1), .bool out.2.2]) [] := by
  refine ACall.intro Try.func38 rfl Try.ntmps38 rfl (fun F hF => ?_)
  unfold m_impl_DropUnused at hm
  refine T_seq ?_
  refine T_region ?_
  refine TL_box 11 rfl rfl rfl rfl rfl rfl rfl ?_
  refine TL_alloc 12 z42 rfl rfl rfl rfl rfl rfl rfl ?_
  refine TL_pure rfl rfl rfl rfl (op_assign rfl) ?_
  refine TL_pure rfl rfl rfl rfl (op_assign rfl) ?_
  refine TL_nil ?_
  refine T_seq ?_
  refine T_seq ?_
  refine T_region ?_
  refine TL_pure rfl rfl rfl rfl (op_load_agg ag42 sz42 rfl rfl rfl) ?_
  refine TL_pure rfl rfl rfl rfl (op_move rfl) ?_
  obtain ⟨r15, hr15, hm⟩ := bindS hm
  refine TL_callF (c_impl_CheckProof p0 p1 r15 hr15) Try.call28 rfl rfl rfl rfl rfl ?_
  refine TL_pure rfl rfl rfl rfl (op_not rfl) ?_
  refine TL_nil ?_
  refine T_cond rfl (fun hq => ?_) (fun hq => ?_)
  · replace hm := condT hq hm
    refine T_seq ?_
    refine T_region ?_
    refine TL_pure rfl rfl rfl rfl (op_buildP pl42 z42 rfl rfl rfl rfl rfl) ?_
    refine TL_store_box sz42 rfl rfl rfl rfl rfl rfl rfl rfl rfl ?_
    refine TL_pure rfl rfl rfl rfl (op_assign rfl) ?_
    refine TL_pure rfl rfl rfl rfl (op_assign rfl) ?_
    refine TL_nil ?_
    refine T_keepH [4, 5, 6] [12] rfl rfl rfl rfl (by rw [hF]; rfl) ?_
    refine T_nilAt 5 (x' := .sl 5 (List.map a_Node ([] : List Node))) rfl (.inr ⟨_, rfl⟩) rfl ?_
    refine T_nilBox 12 (cs' := [.sl 2 (List.map a_Term ([] : List Term)), .int .i64 (0 : Int), .sl 1 (List.map a_i64 ([] : List Int))]) rfl (⟨_, _, rfl, .inr ⟨_, rfl⟩, ⟨_, _, rfl, rfl, ⟨_, _, rfl, .inr ⟨_, rfl⟩, rfl⟩⟩⟩) rfl ?_
    refine T_ret ?_
    obtain rfl := someI hm
    refine ⟨[_, _, _], [], ⟨⟨_, _, rfl, rfl, .inr ⟨ag42, _, _, sz42, rfl, rfl⟩⟩, rfl, rfl, trivial⟩, ?_, rfl, rfl, rfl, rfl⟩
    rfl
  · replace hm := condF hq hm
    refine T_skip ?_
    refine T_seq ?_
    refine T_region ?_
    refine TL_pure rfl rfl rfl rfl (op_fieldAddr fa42_1 rfl rfl) ?_
    refine TL_pure rfl rfl rfl rfl (op_load_agg ag40 sz40 rfl rfl rfl) ?_
    obtain ⟨r20, hr20, hm⟩ := bindS hm
    refine TL_callO [(1000, 13)] (c_impl_Term_own p0.Goal r20 hr20) Try.call89 rfl rfl rfl rfl rfl rfl rfl rfl rfl rfl rfl rfl rfl ?_
    refine TL_pure rfl rfl rfl rfl (op_buildP pl42 z42 rfl rfl rfl rfl rfl) ?_
    refine TL_alloc 14 z42 rfl rfl rfl rfl rfl rfl rfl ?_
    refine TL_store_box sz42 rfl rfl rfl rfl rfl rfl rfl rfl rfl ?_
    refine TL_nil ?_
    refine T_seq ?_
    refine T_region ?_
    refine TL_alloc 15 z96 rfl rfl rfl rfl rfl rfl rfl ?_
    refine TL_nil ?_
    refine T_seq ?_
    refine T_seq ?_
    refine T_region ?_
    refine TL_pure rfl rfl rfl rfl (op_move rfl) ?_
    refine TL_pure rfl rfl rfl rfl (op_fieldAddr fa42_0 rfl rfl) ?_
    refine TL_pure rfl rfl rfl rfl (op_load_one ag39 rfl rfl) ?_
    refine TL_pure rfl rfl rfl rfl (op_lenT Try.underlying39 rfl (List.length_map _)) ?_
    refine TL_fact (fun _ _ _ hr => RelP.slLen (i := 24) rfl hr) (fun hlen25 => ?_)
    rw [List.length_map] at hlen25
    obtain ⟨r26, hr26, hm⟩ := bindS hm
    refine TL_callO [(1000, 16)] (c_impl_used p1 (p0.Facts.length : Int) r26 hr26) Try.call91 rfl rfl rfl rfl rfl rfl rfl rfl rfl rfl rfl rfl rfl ?_
    refine TL_pure rfl rfl rfl rfl (op_lenO Try.underlying124 rfl rfl (List.length_map _)) ?_
    refine TL_fact (fun _ _ _ hr => RelP.owLen (id := 16) rfl hr) (fun hlen27 => ?_)
    rw [List.length_map] at hlen27
    refine TL_pure rfl rfl rfl rfl (op_move rfl) ?_
    refine TL_nil ?_
    refine T_block ?_
    refine T_ownNilBox 14 0 2906 ⟨false, true⟩ 40 rfl rfl rfl (sz := 2) rfl rfl rfl rfl ?_
    refine T_ownNilBox 15 0 2907 ⟨false, false⟩ 3 rfl rfl rfl (sz := 1) rfl rfl rfl rfl ?_
    refine T_keepH [1, 2, 4, 7, 8, 26, 27, 28] [11, 12, 13, 14, 15, 16, 2906, 2907] rfl rfl rfl rfl (by rw [hF]; rfl) ?_
    refine T_ren [(11, 11), (12, 12), (13, 13), (14, 14), (15, 15), (16, 16), (2906, 70003), (2907, 70006)] rfl rfl rfl (by rw [hF]; rfl) ?_
    refine T_loop ?_
    obtain ⟨u0, hl0, hm⟩ := bindS hm
    refine TR_forL2 r26 (m_impl_DropUnused_L0 p0) (fun (s0 : (List Term) × (List Int)) => (s0.1, s0.2)) (fun n0 (s0 : (List Term) × (List Int)) => ⟨[(1, .sl 5 (List.map a_Node p1)), (2, .ptr 11 0 0), (4, .ptr 12 0 0), (7, .ptr 14 0 0), (8, .ptr 15 0 0), (26, .ow 16), (27, .int .i64 (r26.length : Int)), (28, .int .i64 (n0 : Int))], [(11, .box [.sl 2 (List.map a_Term p0.Facts), .int .i64 p0.Goal.Const, .sl 1 (List.map a_i64 p0.Goal.Coeffs)]), (12, .box [.snil, .int .i64 (0 : Int), .snil]), (13, .arr ⟨false, true⟩ 1 2 (List.map a_i64 r20.Coeffs)), (14, .box [.ow 70003, .int .i64 r20.Const, .ow 13]), (15, .box [.ow 70006]), (16, .arr ⟨false, true⟩ 1 4 (List.map a_bool r26)), (70003, .arr ⟨false, true⟩ 2 40 (List.map a_Term s0.1)), (70006, .arr ⟨false, false⟩ 1 3 (List.map a_i64 s0.2))]⟩) (fun u0 => .exit 0) (fun u0 => ⟨[(1, .sl 5 (List.map a_Node p1)), (2, .ptr 11 0 0), (4, .ptr 12 0 0), (7, .ptr 14 0 0), (8, .ptr 15 0 0)], [(11, .box [.sl 2 (List.map a_Term p0.Facts), .int .i64 p0.Goal.Const, .sl 1 (List.map a_i64 p0.Goal.Coeffs)]), (12, .box [.snil, .int .i64 (0 : Int), .snil]), (13, .arr ⟨false, true⟩ 1 2 (List.map a_i64 r20.Coeffs)), (14, .box [.ow 70003, .int .i64 r20.Const, .ow 13]), (15, .box [.ow 70006]), (70003, .arr ⟨false, true⟩ 2 40 (List.map a_Term u0.1)), (70006, .arr ⟨false, false⟩ 1 3 (List.map a_i64 u0.2))]⟩) (fun u0 => m_impl_DropUnused_A0 p0 p1 r20 u0 = some out) hl0 hm (fun u0 hm => ?_) (fun hx0 s0 hm => ?_) (fun hx0 n0 x0 s0 c0 hxn0 hlt0 hm hc0 => ?_)
    · unfold m_impl_DropUnused_A0 at hm
      refine T_seq ?_
      refine T_region ?_
      refine TL_pure rfl rfl rfl rfl (op_fieldAddr fa42_0 rfl rfl) ?_
      refine TL_pure rfl rfl rfl rfl (op_load_one ag39 rfl rfl) ?_
      refine TL_pure rfl rfl rfl rfl (op_lenT Try.underlying39 rfl (List.length_map _)) ?_
      refine TL_pure rfl rfl rfl rfl (op_fieldAddr fa42_0 rfl rfl) ?_
      refine TL_pure rfl rfl rfl rfl (op_load_one ag39 rfl rfl) ?_
      refine TL_pure rfl rfl rfl rfl (op_lenO Try.underlying39 rfl rfl (List.length_map _)) ?_
      refine TL_fact (fun _ _ _ hr => RelP.owLen (id := 70003) rfl hr) (fun hlen58 => ?_)
      rw [List.length_map] at hlen58
      refine TL_pure rfl rfl rfl rfl (op_subW rfl rfl) ?_
      refine TL_alloc 2905 z3 rfl rfl rfl rfl rfl rfl rfl ?_
      refine TL_store_box sz3 rfl rfl rfl rfl rfl rfl rfl rfl rfl ?_
      refine TL_nil ?_
      refine T_seq ?_
      refine T_drawZ [5] mix (by kernel_rfl) rfl ?_
      obtain ⟨r64, hr64, hm⟩ := bindS hm
      refine TZ_pure 0 (by kernel_rfl) rfl rfl rfl rfl rfl (op_load_agg ag42 sz42 rfl rfl rfl) ?_
      refine TZ_pure 1 (by kernel_rfl) rfl rfl rfl rfl rfl (op_move rfl) ?_
      refine TZ_freezeB 2905 (by rw [hF]; rfl) rfl rfl rfl rfl ?_
      refine TZ_pure 2 (by kernel_rfl) rfl rfl rfl rfl rfl (op_makeFunc rfl rfl) ?_
      refine TZ_freeze 70006 (by rw [hF]; rfl) rfl rfl rfl ?_
      refine TZ_freezeB 15 (by rw [hF]; rfl) rfl rfl rfl rfl ?_
      refine TZ_pure 3 (by kernel_rfl) rfl rfl rfl rfl rfl (op_makeFunc rfl rfl) ?_
      refine TZ_one 4 (by kernel_rfl) rfl ?_
      refine TL_callT (c_impl_movedNodes_fDropUnused_1_DropUnused_2 p1 (w64 ((p0.Facts.length : Int) - (u0.1.length : Int))) u0.2 (w64 ((p0.Facts.length : Int) - (u0.1.length : Int))) r64 hr64) Try.call84 rfl rfl rfl rfl rfl ?_
      refine TL_nil ?_
      refine TZ_one 5 (by kernel_rfl) rfl ?_
      refine TL_store_box sz42 rfl rfl rfl rfl rfl rfl rfl rfl rfl ?_
      refine TL_nil ?_
      refine TZ_pure 6 (by kernel_rfl) rfl rfl rfl rfl rfl (op_assign rfl) ?_
      refine TZ_pure 7 (by kernel_rfl) rfl rfl rfl rfl rfl (op_assign rfl) ?_
      refine TZ_done (by kernel_rfl) ?_
      refine T_keepH [4, 5, 6] [12, 13, 70003] rfl rfl rfl rfl (by rw [hF]; rfl) ?_
      refine T_freeze 70003 (by rw [hF]; rfl) rfl rfl rfl ?_
      refine T_freeze 13 (by rw [hF]; rfl) rfl rfl rfl ?_
      refine T_ret ?_
      obtain rfl := someI hm
      refine ⟨[_, _, _], [], ⟨⟨_, _, rfl, rfl, .inr ⟨ag42, _, _, sz42, rfl, rfl⟩⟩, rfl, rfl, trivial⟩, ?_, rfl, rfl, rfl, rfl⟩
      rfl
    · refine T_seq ?_
      refine T_region ?_
      refine TL_pure rfl rfl rfl rfl (op_lss rfl rfl) ?_
      refine TL_nil ?_
      refine T_seq ?_
      refine T_if_false rfl (decide_eq_false (by simp)) ?_
      refine T_keepH [1, 2, 4, 7, 8] [11, 12, 13, 14, 15, 70003, 70006] rfl rfl rfl rfl (by rw [hF]; rfl) ?_
      refine T_exit ?_
      exact hx0 (s0.1, s0.2) hm
    · unfold m_impl_DropUnused_L0 at hm
      refine T_seq ?_
      refine T_region ?_
      refine TL_pure rfl rfl rfl rfl (op_lss rfl rfl) ?_
      refine TL_nil ?_
      refine T_seq ?_
      refine T_if_true rfl (decide_eq_true (Int.ofNat_lt.2 hlt0)) ?_
      refine T_skip ?_
      refine T_seq ?_
      refine T_block ?_
      refine T_seq ?_
      refine T_region ?_
      refine TL_pure rfl rfl rfl rfl (op_move rfl) ?_
      refine TL_pure rfl rfl rfl rfl (op_index_ow el124 rfl rfl rfl rfl (by simpa using (List.getElem?_eq_some_iff.1 hxn0).1)) ?_
      refine TL_pure rfl rfl rfl rfl (op_loadD1 ag4 rfl rfl (hxn0) rfl rfl rfl rfl) ?_
      refine TL_pure rfl rfl rfl rfl (op_assign rfl) ?_
      refine TL_pure rfl rfl rfl rfl (op_assign rfl) ?_
      refine TL_nil ?_
      refine T_seq ?_
      refine T_region ?_
      refine TL_pure rfl rfl rfl rfl (op_assign rfl) ?_
      refine TL_nil ?_
      refine T_seq ?_
      refine T_seq ?_
      refine T_region ?_
      refine TL_pure rfl rfl rfl rfl (op_move rfl) ?_
      refine TL_nil ?_
      refine T_cond rfl (fun hq => ?_) (fun hq => ?_)
      · replace hm := condT hq hm
        refine T_seq ?_
        refine T_region ?_
        refine TL_pure rfl rfl rfl rfl (op_fieldAddr fa42_0 rfl rfl) ?_
        refine TL_pure rfl rfl rfl rfl (op_load_one ag39 rfl rfl) ?_
        refine TL_pure rfl rfl rfl rfl (op_lenO Try.underlying39 rfl rfl (List.length_map _)) ?_
        refine TL_fact (fun _ _ _ hr => RelP.owLen (id := 70003) rfl hr) (fun hlen36 => ?_)
        rw [List.length_map] at hlen36
        refine TL_pure rfl rfl rfl rfl (op_assign rfl) ?_
        refine TL_nil ?_
        refine T_drawZ [8, 9, 11] mix (by kernel_rfl) rfl ?_
        obtain ⟨x42, hx42, hm⟩ := bindS hm
        obtain ⟨r44, hr44, hm⟩ := bindS hm
        obtain ⟨q46, hq46, hm⟩ := bindS hm
        refine TZ_pure 0 (by kernel_rfl) rfl rfl rfl rfl rfl (op_fieldAddr fa42_0 rfl rfl) ?_
        refine TZ_pure 2 (by kernel_rfl) rfl rfl rfl rfl rfl (op_fieldAddr fa42_0 rfl rfl) ?_
        refine TZ_pure 4 (by kernel_rfl) rfl rfl rfl rfl rfl (op_move rfl) ?_
        refine TZ_cut 8 [true, true, true, false, true, false, false, false, false, false, false, false] ⟨[(1, .sl 5 (List.map a_Node p1)), (2, .ptr 11 0 0), (4, .ptr 12 0 0), (7, .ptr 14 0 0), (8, .ptr 15 0 0), (9, .int .i64 (n0 : Int)), (10, .bool x0), (11, .int .i64 (s0.1.length : Int)), (26, .ow 16), (27, .int .i64 (r26.length : Int)), (28, .int .i64 (n0 : Int)), (29, .bool (decide ((n0 : Int) < (r26.length : Int)))), (30, .int .i64 (n0 : Int)), (31, .ptr 16 n0 0), (32, .bool x0), (33, .bool x0), (34, .ptr 14 0 0), (35, .ow 70003), (36, .int .i64 (s0.1.length : Int)), (37, .ptr 14 0 0), (38, .ow 70003), (39, .ptr 11 0 0), (41, .int .i64 (n0 : Int))], [(11, .box [.sl 2 (List.map a_Term p0.Facts), .int .i64 p0.Goal.Const, .sl 1 (List.map a_i64 p0.Goal.Coeffs)]), (12, .box [.snil, .int .i64 (0 : Int), .snil]), (13, .arr ⟨false, true⟩ 1 2 (List.map a_i64 r20.Coeffs)), (14, .box [.ow 70003, .int .i64 r20.Const, .ow 13]), (15, .box [.ow 70006]), (16, .arr ⟨false, true⟩ 1 4 (List.map a_bool r26)), (70003, .arr ⟨false, true⟩ 2 40 (List.map a_Term s0.1)), (70006, .arr ⟨false, false⟩ 1 3 (List.map a_i64 s0.2))]⟩ ?_ (fun hS1942_0 => ?_)
        · refine TZ_one 3 (by kernel_rfl) rfl ?_
          refine TL_pure rfl rfl rfl rfl (op_load_one ag39 rfl rfl) ?_
          refine TL_nil ?_
          refine TZ_pure 5 (by kernel_rfl) rfl rfl rfl rfl rfl (op_indexT el39 rfl rfl hx42 rfl) ?_
          refine TZ_one 6 (by kernel_rfl) rfl ?_
          refine TL_pure rfl rfl rfl rfl (op_load_agg ag40 sz40 rfl rfl rfl) ?_
          refine TL_nil ?_
          refine TZ_one 7 (by kernel_rfl) rfl ?_
          refine TL_callO [(1000, 2583)] (c_impl_Term_own x42 r44 hr44) Try.call89 rfl rfl rfl rfl rfl rfl rfl rfl rfl rfl rfl rfl rfl ?_
          refine TL_nil ?_
          refine TZ_one 8 (by kernel_rfl) rfl ?_
          refine TL_buildSliceD (ids := [2583]) (es := List.map a_Term [r44]) 2663 el39 z40 rfl rfl rfl rfl rfl rfl (by rw [hF]; intro j hj; simp only [List.mem_cons, List.not_mem_nil, or_false] at hj; rcases hj with rfl <;> rfl) rfl rfl rfl rfl rfl rfl ?_
          refine TL_nil ?_
          refine TZ_one 9 (by kernel_rfl) rfl ?_
          refine TL_appendDT (f := a_Term) (a := s0.1) (b := [r44]) el39 z40 rfl rfl rfl rfl rfl rfl rfl rfl (by rw [hF]; rfl) (capI_spec hq46) rfl rfl rfl rfl rfl ?_
          refine TL_nil ?_
          refine TZ_pure 10 (by kernel_rfl) rfl rfl rfl rfl rfl (op_fieldAddr fa42_0 rfl rfl) ?_
          refine TZ_one 11 (by kernel_rfl) rfl ?_
          refine TL_store_box sz39 rfl rfl rfl rfl rfl rfl rfl rfl rfl ?_
          refine TL_nil ?_
          refine TZ_done (by kernel_rfl) ?_
          refine T_region ?_
          refine TL_pure rfl rfl rfl rfl (op_load_one ag96 rfl rfl) ?_
          refine TL_pure rfl rfl rfl rfl (op_move rfl) ?_
          refine TL_buildSlice 2903 (es := List.map a_i64 [(s0.1.length : Int)]) el96 z3 rfl rfl rfl rfl rfl rfl rfl rfl rfl ?_
          obtain ⟨q51, hq51, hm⟩ := bindS hm
          refine TL_appendT (f := a_i64) (a := s0.2) (b := [(s0.1.length : Int)]) el96 z3 rfl rfl rfl rfl rfl rfl rfl (capI_spec hq51) rfl rfl rfl rfl rfl ?_
          refine TL_store_box sz96 rfl rfl rfl rfl rfl rfl rfl rfl rfl ?_
          refine TL_nil ?_
          refine T_region ?_
          refine TL_pure rfl rfl rfl rfl (op_addN rfl rfl (Nat.lt_of_lt_of_le hlt0 hlen27)) ?_
          refine TL_pure rfl rfl rfl rfl (op_move rfl) ?_
          refine TL_nil ?_
          refine TR_keepH [1, 2, 4, 7, 8, 26, 27, 28] [11, 12, 13, 14, 15, 16, 70003, 70006] rfl rfl rfl rfl (by rw [hF]; rfl) ?_
          obtain rfl := someI hm
          have hn := CtlOK_next hc0
          exact hn _ rfl
        refine TZ_cut 6 [true, true, true, true, true, true, false, false, false, false, false, false] ⟨[(1, .sl 5 (List.map a_Node p1)), (2, .ptr 11 0 0), (4, .ptr 12 0 0), (7, .ptr 14 0 0), (8, .ptr 15 0 0), (9, .int .i64 (n0 : Int)), (10, .bool x0), (11, .int .i64 (s0.1.length : Int)), (26, .ow 16), (27, .int .i64 (r26.length : Int)), (28, .int .i64 (n0 : Int)), (29, .bool (decide ((n0 : Int) < (r26.length : Int)))), (30, .int .i64 (n0 : Int)), (31, .ptr 16 n0 0), (32, .bool x0), (33, .bool x0), (34, .ptr 14 0 0), (35, .ow 70003), (36, .int .i64 (s0.1.length : Int)), (37, .ptr 14 0 0), (38, .ow 70003), (39, .ptr 11 0 0), (40, .sl 2 (List.map a_Term p0.Facts)), (41, .int .i64 (n0 : Int)), (42, .cp [.int .i64 x42.Const, .sl 1 (List.map a_i64 x42.Coeffs)])], [(11, .box [.sl 2 (List.map a_Term p0.Facts), .int .i64 p0.Goal.Const, .sl 1 (List.map a_i64 p0.Goal.Coeffs)]), (12, .box [.snil, .int .i64 (0 : Int), .snil]), (13, .arr ⟨false, true⟩ 1 2 (List.map a_i64 r20.Coeffs)), (14, .box [.ow 70003, .int .i64 r20.Const, .ow 13]), (15, .box [.ow 70006]), (16, .arr ⟨false, true⟩ 1 4 (List.map a_bool r26)), (70003, .arr ⟨false, true⟩ 2 40 (List.map a_Term s0.1)), (70006, .arr ⟨false, false⟩ 1 3 (List.map a_i64 s0.2))]⟩ ?_ (fun hS1942_1 => ?_)
        · refine TZ_one 6 (by kernel_rfl) rfl ?_
          refine TL_pure rfl rfl rfl rfl (op_load_agg ag40 sz40 rfl rfl rfl) ?_
          refine TL_nil ?_
          refine TZ_one 7 (by kernel_rfl) rfl ?_
          refine TL_callO [(1000, 2583)] (c_impl_Term_own x42 r44 hr44) Try.call89 rfl rfl rfl rfl rfl rfl rfl rfl rfl rfl rfl rfl rfl ?_
          refine TL_nil ?_
          refine TZ_one 8 (by kernel_rfl) rfl ?_
          refine TL_buildSliceD (ids := [2583]) (es := List.map a_Term [r44]) 2663 el39 z40 rfl rfl rfl rfl rfl rfl (by rw [hF]; intro j hj; simp only [List.mem_cons, List.not_mem_nil, or_false] at hj; rcases hj with rfl <;> rfl) rfl rfl rfl rfl rfl rfl ?_
          refine TL_nil ?_
          refine TZ_one 9 (by kernel_rfl) rfl ?_
          refine TL_appendDT (f := a_Term) (a := s0.1) (b := [r44]) el39 z40 rfl rfl rfl rfl rfl rfl rfl rfl (by rw [hF]; rfl) (capI_spec hq46) rfl rfl rfl rfl rfl ?_
          refine TL_nil ?_
          refine TZ_pure 10 (by kernel_rfl) rfl rfl rfl rfl rfl (op_fieldAddr fa42_0 rfl rfl) ?_
          refine TZ_one 11 (by kernel_rfl) rfl ?_
          refine TL_store_box sz39 rfl rfl rfl rfl rfl rfl rfl rfl rfl ?_
          refine TL_nil ?_
          refine TZ_done (by kernel_rfl) ?_
          refine T_region ?_
          refine TL_pure rfl rfl rfl rfl (op_load_one ag96 rfl rfl) ?_
          refine TL_pure rfl rfl rfl rfl (op_move rfl) ?_
          refine TL_buildSlice 2903 (es := List.map a_i64 [(s0.1.length : Int)]) el96 z3 rfl rfl rfl rfl rfl rfl rfl rfl rfl ?_
          obtain ⟨q51, hq51, hm⟩ := bindS hm
          refine TL_appendT (f := a_i64) (a := s0.2) (b := [(s0.1.length : Int)]) el96 z3 rfl rfl rfl rfl rfl rfl rfl (capI_spec hq51) rfl rfl rfl rfl rfl ?_
          refine TL_store_box sz96 rfl rfl rfl rfl rfl rfl rfl rfl rfl ?_
          refine TL_nil ?_
          refine T_region ?_
          refine TL_pure rfl rfl rfl rfl (op_addN rfl rfl (Nat.lt_of_lt_of_le hlt0 hlen27)) ?_
          refine TL_pure rfl rfl rfl rfl (op_move rfl) ?_
          refine TL_nil ?_
          refine TR_keepH [1, 2, 4, 7, 8, 26, 27, 28] [11, 12, 13, 14, 15, 16, 70003, 70006] rfl rfl rfl rfl (by rw [hF]; rfl) ?_
          obtain rfl := someI hm
          have hn := CtlOK_next hc0
          exact hn _ rfl
        refine TZ_cut 5 [true, true, true, true, true, true, true, false, false, false, false, false] ⟨[(1, .sl 5 (List.map a_Node p1)), (2, .ptr 11 0 0), (4, .ptr 12 0 0), (7, .ptr 14 0 0), (8, .ptr 15 0 0), (9, .int .i64 (n0 : Int)), (10, .bool x0), (11, .int .i64 (s0.1.length : Int)), (26, .ow 16), (27, .int .i64 (r26.length : Int)), (28, .int .i64 (n0 : Int)), (29, .bool (decide ((n0 : Int) < (r26.length : Int)))), (30, .int .i64 (n0 : Int)), (31, .ptr 16 n0 0), (32, .bool x0), (33, .bool x0), (34, .ptr 14 0 0), (35, .ow 70003), (36, .int .i64 (s0.1.length : Int)), (37, .ptr 14 0 0), (38, .ow 70003), (39, .ptr 11 0 0), (40, .sl 2 (List.map a_Term p0.Facts)), (41, .int .i64 (n0 : Int)), (42, .cp [.int .i64 x42.Const, .sl 1 (List.map a_i64 x42.Coeffs)]), (43, .agg [.int .i64 x42.Const, .sl 1 (List.map a_i64 x42.Coeffs)])], [(11, .box [.sl 2 (List.map a_Term p0.Facts), .int .i64 p0.Goal.Const, .sl 1 (List.map a_i64 p0.Goal.Coeffs)]), (12, .box [.snil, .int .i64 (0 : Int), .snil]), (13, .arr ⟨false, true⟩ 1 2 (List.map a_i64 r20.Coeffs)), (14, .box [.ow 70003, .int .i64 r20.Const, .ow 13]), (15, .box [.ow 70006]), (16, .arr ⟨false, true⟩ 1 4 (List.map a_bool r26)), (70003, .arr ⟨false, true⟩ 2 40 (List.map a_Term s0.1)), (70006, .arr ⟨false, false⟩ 1 3 (List.map a_i64 s0.2))]⟩ ?_ (fun hS1942_2 => ?_)
        · refine TZ_one 7 (by kernel_rfl) rfl ?_
          refine TL_callO [(1000, 2583)] (c_impl_Term_own x42 r44 hr44) Try.call89 rfl rfl rfl rfl rfl rfl rfl rfl rfl rfl rfl rfl rfl ?_
          refine TL_nil ?_
          refine TZ_one 8 (by kernel_rfl) rfl ?_
          refine TL_buildSliceD (ids := [2583]) (es := List.map a_Term [r44]) 2663 el39 z40 rfl rfl rfl rfl rfl rfl (by rw [hF]; intro j hj; simp only [List.mem_cons, List.not_mem_nil, or_false] at hj; rcases hj with rfl <;> rfl) rfl rfl rfl rfl rfl rfl ?_
          refine TL_nil ?_
          refine TZ_one 9 (by kernel_rfl) rfl ?_
          refine TL_appendDT (f := a_Term) (a := s0.1) (b := [r44]) el39 z40 rfl rfl rfl rfl rfl rfl rfl rfl (by rw [hF]; rfl) (capI_spec hq46) rfl rfl rfl rfl rfl ?_
          refine TL_nil ?_
          refine TZ_pure 10 (by kernel_rfl) rfl rfl rfl rfl rfl (op_fieldAddr fa42_0 rfl rfl) ?_
          refine TZ_one 11 (by kernel_rfl) rfl ?_
          refine TL_store_box sz39 rfl rfl rfl rfl rfl rfl rfl rfl rfl ?_
          refine TL_nil ?_
          refine TZ_done (by kernel_rfl) ?_
          refine T_region ?_
          refine TL_pure rfl rfl rfl rfl (op_load_one ag96 rfl rfl) ?_
          refine TL_pure rfl rfl rfl rfl (op_move rfl) ?_
          refine TL_buildSlice 2903 (es := List.map a_i64 [(s0.1.length : Int)]) el96 z3 rfl rfl rfl rfl rfl rfl rfl rfl rfl ?_
          obtain ⟨q51, hq51, hm⟩ := bindS hm
          refine TL_appendT (f := a_i64) (a := s0.2) (b := [(s0.1.length : Int)]) el96 z3 rfl rfl rfl rfl rfl rfl rfl (capI_spec hq51) rfl rfl rfl rfl rfl ?_
          refine TL_store_box sz96 rfl rfl rfl rfl rfl rfl rfl rfl rfl ?_
          refine TL_nil ?_
          refine T_region ?_
          refine TL_pure rfl rfl rfl rfl (op_addN rfl rfl (Nat.lt_of_lt_of_le hlt0 hlen27)) ?_
          refine TL_pure rfl rfl rfl rfl (op_move rfl) ?_
          refine TL_nil ?_
          refine TR_keepH [1, 2, 4, 7, 8, 26, 27, 28] [11, 12, 13, 14, 15, 16, 70003, 70006] rfl rfl rfl rfl (by rw [hF]; rfl) ?_
          obtain rfl := someI hm
          have hn := CtlOK_next hc0
          exact hn _ rfl
        refine TZ_cut 4 [true, true, true, true, true, true, true, true, false, false, false, false] ⟨[(1, .sl 5 (List.map a_Node p1)), (2, .ptr 11 0 0), (4, .ptr 12 0 0), (7, .ptr 14 0 0), (8, .ptr 15 0 0), (9, .int .i64 (n0 : Int)), (10, .bool x0), (11, .int .i64 (s0.1.length : Int)), (26, .ow 16), (27, .int .i64 (r26.length : Int)), (28, .int .i64 (n0 : Int)), (29, .bool (decide ((n0 : Int) < (r26.length : Int)))), (30, .int .i64 (n0 : Int)), (31, .ptr 16 n0 0), (32, .bool x0), (33, .bool x0), (34, .ptr 14 0 0), (35, .ow 70003), (36, .int .i64 (s0.1.length : Int)), (37, .ptr 14 0 0), (38, .ow 70003), (39, .ptr 11 0 0), (40, .sl 2 (List.map a_Term p0.Facts)), (41, .int .i64 (n0 : Int)), (42, .cp [.int .i64 x42.Const, .sl 1 (List.map a_i64 x42.Coeffs)]), (43, .agg [.int .i64 x42.Const, .sl 1 (List.map a_i64 x42.Coeffs)]), (44, .agg [.int .i64 r44.Const, .ow 2583])], [(11, .box [.sl 2 (List.map a_Term p0.Facts), .int .i64 p0.Goal.Const, .sl 1 (List.map a_i64 p0.Goal.Coeffs)]), (12, .box [.snil, .int .i64 (0 : Int), .snil]), (13, .arr ⟨false, true⟩ 1 2 (List.map a_i64 r20.Coeffs)), (14, .box [.ow 70003, .int .i64 r20.Const, .ow 13]), (15, .box [.ow 70006]), (16, .arr ⟨false, true⟩ 1 4 (List.map a_bool r26)), (2583, .arr ⟨false, true⟩ 1 2 (List.map a_i64 r44.Coeffs)), (70003, .arr ⟨false, true⟩ 2 40 (List.map a_Term s0.1)), (70006, .arr ⟨false, false⟩ 1 3 (List.map a_i64 s0.2))]⟩ ?_ (fun hS1942_3 => ?_)
        · refine TZ_one 8 (by kernel_rfl) rfl ?_
          refine TL_buildSliceD (ids := [2583]) (es := List.map a_Term [r44]) 2663 el39 z40 rfl rfl rfl rfl rfl rfl (by rw [hF]; intro j hj; simp only [List.mem_cons, List.not_mem_nil, or_false] at hj; rcases hj with rfl <;> rfl) rfl rfl rfl rfl rfl rfl ?_
          refine TL_nil ?_
          refine TZ_one 9 (by kernel_rfl) rfl ?_
          refine TL_appendDT (f := a_Term) (a := s0.1) (b := [r44]) el39 z40 rfl rfl rfl rfl rfl rfl rfl rfl (by rw [hF]; rfl) (capI_spec hq46) rfl rfl rfl rfl rfl ?_
          refine TL_nil ?_
          refine TZ_pure 10 (by kernel_rfl) rfl rfl rfl rfl rfl (op_fieldAddr fa42_0 rfl rfl) ?_
          refine TZ_one 11 (by kernel_rfl) rfl ?_
          refine TL_store_box sz39 rfl rfl rfl rfl rfl rfl rfl rfl rfl ?_
          refine TL_nil ?_
          refine TZ_done (by kernel_rfl) ?_
          refine T_region ?_
          refine TL_pure rfl rfl rfl rfl (op_load_one ag96 rfl rfl) ?_
          refine TL_pure rfl rfl rfl rfl (op_move rfl) ?_
          refine TL_buildSlice 2903 (es := List.map a_i64 [(s0.1.length : Int)]) el96 z3 rfl rfl rfl rfl rfl rfl rfl rfl rfl ?_
          obtain ⟨q51, hq51, hm⟩ := bindS hm
          refine TL_appendT (f := a_i64) (a := s0.2) (b := [(s0.1.length : Int)]) el96 z3 rfl rfl rfl rfl rfl rfl rfl (capI_spec hq51) rfl rfl rfl rfl rfl ?_
          refine TL_store_box sz96 rfl rfl rfl rfl rfl rfl rfl rfl rfl ?_
          refine TL_nil ?_
          refine T_region ?_
          refine TL_pure rfl rfl rfl rfl (op_addN rfl rfl (Nat.lt_of_lt_of_le hlt0 hlen27)) ?_
          refine TL_pure rfl rfl rfl rfl (op_move rfl) ?_
          refine TL_nil ?_
          refine TR_keepH [1, 2, 4, 7, 8, 26, 27, 28] [11, 12, 13, 14, 15, 16, 70003, 70006] rfl rfl rfl rfl (by rw [hF]; rfl) ?_
          obtain rfl := someI hm
          have hn := CtlOK_next hc0
          exact hn _ rfl
        refine TZ_cut 4 [true, false, true, true, true, true, true, true, true, false, false, false] ⟨[(1, .sl 5 (List.map a_Node p1)), (2, .ptr 11 0 0), (4, .ptr 12 0 0), (7, .ptr 14 0 0), (8, .ptr 15 0 0), (9, .int .i64 (n0 : Int)), (10, .bool x0), (11, .int .i64 (s0.1.length : Int)), (26, .ow 16), (27, .int .i64 (r26.length : Int)), (28, .int .i64 (n0 : Int)), (29, .bool (decide ((n0 : Int) < (r26.length : Int)))), (30, .int .i64 (n0 : Int)), (31, .ptr 16 n0 0), (32, .bool x0), (33, .bool x0), (34, .ptr 14 0 0), (35, .ow 70003), (36, .int .i64 (s0.1.length : Int)), (37, .ptr 14 0 0), (39, .ptr 11 0 0), (40, .sl 2 (List.map a_Term p0.Facts)), (41, .int .i64 (n0 : Int)), (42, .cp [.int .i64 x42.Const, .sl 1 (List.map a_i64 x42.Coeffs)]), (43, .agg [.int .i64 x42.Const, .sl 1 (List.map a_i64 x42.Coeffs)]), (44, .junk), (45, .ow 2663)], [(11, .box [.sl 2 (List.map a_Term p0.Facts), .int .i64 p0.Goal.Const, .sl 1 (List.map a_i64 p0.Goal.Coeffs)]), (12, .box [.snil, .int .i64 (0 : Int), .snil]), (13, .arr ⟨false, true⟩ 1 2 (List.map a_i64 r20.Coeffs)), (14, .box [.ow 70003, .int .i64 r20.Const, .ow 13]), (15, .box [.ow 70006]), (16, .arr ⟨false, true⟩ 1 4 (List.map a_bool r26)), (2663, .arr ⟨false, true⟩ 2 40 (List.map a_Term [r44])), (70003, .arr ⟨false, true⟩ 2 40 (List.map a_Term s0.1)), (70006, .arr ⟨false, false⟩ 1 3 (List.map a_i64 s0.2))]⟩ ?_ (fun hS1942_4 => ?_)
        · refine TZ_pure 1 (by kernel_rfl) rfl rfl rfl rfl rfl (op_load_one ag39 rfl rfl) ?_
          refine TZ_one 9 (by kernel_rfl) rfl ?_
          refine TL_appendDT (f := a_Term) (a := s0.1) (b := [r44]) el39 z40 rfl rfl rfl rfl rfl rfl rfl rfl (by rw [hF]; rfl) (capI_spec hq46) rfl rfl rfl rfl rfl ?_
          refine TL_nil ?_
          refine TZ_pure 10 (by kernel_rfl) rfl rfl rfl rfl rfl (op_fieldAddr fa42_0 rfl rfl) ?_
          refine TZ_one 11 (by kernel_rfl) rfl ?_
          refine TL_store_box sz39 rfl rfl rfl rfl rfl rfl rfl rfl rfl ?_
          refine TL_nil ?_
          refine TZ_done (by kernel_rfl) ?_
          refine T_region ?_
          refine TL_pure rfl rfl rfl rfl (op_load_one ag96 rfl rfl) ?_
          refine TL_pure rfl rfl rfl rfl (op_move rfl) ?_
          refine TL_buildSlice 2903 (es := List.map a_i64 [(s0.1.length : Int)]) el96 z3 rfl rfl rfl rfl rfl rfl rfl rfl rfl ?_
          obtain ⟨q51, hq51, hm⟩ := bindS hm
          refine TL_appendT (f := a_i64) (a := s0.2) (b := [(s0.1.length : Int)]) el96 z3 rfl rfl rfl rfl rfl rfl rfl (capI_spec hq51) rfl rfl rfl rfl rfl ?_
          refine TL_store_box sz96 rfl rfl rfl rfl rfl rfl rfl rfl rfl ?_
          refine TL_nil ?_
          refine T_region ?_
          refine TL_pure rfl rfl rfl rfl (op_addN rfl rfl (Nat.lt_of_lt_of_le hlt0 hlen27)) ?_
          refine TL_pure rfl rfl rfl rfl (op_move rfl) ?_
          refine TL_nil ?_
          refine TR_keepH [1, 2, 4, 7, 8, 26, 27, 28] [11, 12, 13, 14, 15, 16, 70003, 70006] rfl rfl rfl rfl (by rw [hF]; rfl) ?_
          obtain rfl := someI hm
          have hn := CtlOK_next hc0
          exact hn _ rfl
        refine TZ_cut 5 [true, false, true, true, true, true, true, true, false, false, false, false] ⟨[(1, .sl 5 (List.map a_Node p1)), (2, .ptr 11 0 0), (4, .ptr 12 0 0), (7, .ptr 14 0 0), (8, .ptr 15 0 0), (9, .int .i64 (n0 : Int)), (10, .bool x0), (11, .int .i64 (s0.1.length : Int)), (26, .ow 16), (27, .int .i64 (r26.length : Int)), (28, .int .i64 (n0 : Int)), (29, .bool (decide ((n0 : Int) < (r26.length : Int)))), (30, .int .i64 (n0 : Int)), (31, .ptr 16 n0 0), (32, .bool x0), (33, .bool x0), (34, .ptr 14 0 0), (35, .ow 70003), (36, .int .i64 (s0.1.length : Int)), (37, .ptr 14 0 0), (39, .ptr 11 0 0), (40, .sl 2 (List.map a_Term p0.Facts)), (41, .int .i64 (n0 : Int)), (42, .cp [.int .i64 x42.Const, .sl 1 (List.map a_i64 x42.Coeffs)]), (43, .agg [.int .i64 x42.Const, .sl 1 (List.map a_i64 x42.Coeffs)]), (44, .agg [.int .i64 r44.Const, .ow 2583])], [(11, .box [.sl 2 (List.map a_Term p0.Facts), .int .i64 p0.Goal.Const, .sl 1 (List.map a_i64 p0.Goal.Coeffs)]), (12, .box [.snil, .int .i64 (0 : Int), .snil]), (13, .arr ⟨false, true⟩ 1 2 (List.map a_i64 r20.Coeffs)), (14, .box [.ow 70003, .int .i64 r20.Const, .ow 13]), (15, .box [.ow 70006]), (16, .arr ⟨false, true⟩ 1 4 (List.map a_bool r26)), (2583, .arr ⟨false, true⟩ 1 2 (List.map a_i64 r44.Coeffs)), (70003, .arr ⟨false, true⟩ 2 40 (List.map a_Term s0.1)), (70006, .arr ⟨false, false⟩ 1 3 (List.map a_i64 s0.2))]⟩ ?_ (fun hS1942_5 => ?_)
        · refine TZ_each [1, 8] (by kernel_rfl) rfl ?_
          refine ⟨?_, ?_⟩
          · refine ⟨_, rfl, ?_⟩
            refine TL_pure rfl rfl rfl rfl (op_load_one ag39 rfl rfl) ?_
            refine TL_nil ?_
            refine TZ_keepH [1, 2, 4, 7, 8, 9, 10, 11, 26, 27, 28, 29, 30, 31, 32, 33, 34, 35, 36, 37, 38, 39, 40, 41, 42, 43, 44] [11, 12, 13, 14, 15, 16, 2583, 70003, 70006] rfl rfl rfl rfl (by rw [hF]; rfl) ?_
            exact hS1942_3
          · refine ⟨_, rfl, ?_⟩
            refine TL_buildSliceD (ids := [2583]) (es := List.map a_Term [r44]) 2663 el39 z40 rfl rfl rfl rfl rfl rfl (by rw [hF]; intro j hj; simp only [List.mem_cons, List.not_mem_nil, or_false] at hj; rcases hj with rfl <;> rfl) rfl rfl rfl rfl rfl rfl ?_
            refine TL_nil ?_
            refine TZ_keepH [1, 2, 4, 7, 8, 9, 10, 11, 26, 27, 28, 29, 30, 31, 32, 33, 34, 35, 36, 37, 39, 40, 41, 42, 43, 44, 45] [11, 12, 13, 14, 15, 16, 2663, 70003, 70006] rfl rfl rfl rfl (by rw [hF]; rfl) ?_
            exact hS1942_4
        refine TZ_cut 6 [true, false, true, true, true, true, true, false, false, false, false, false] ⟨[(1, .sl 5 (List.map a_Node p1)), (2, .ptr 11 0 0), (4, .ptr 12 0 0), (7, .ptr 14 0 0), (8, .ptr 15 0 0), (9, .int .i64 (n0 : Int)), (10, .bool x0), (11, .int .i64 (s0.1.length : Int)), (26, .ow 16), (27, .int .i64 (r26.length : Int)), (28, .int .i64 (n0 : Int)), (29, .bool (decide ((n0 : Int) < (r26.length : Int)))), (30, .int .i64 (n0 : Int)), (31, .ptr 16 n0 0), (32, .bool x0), (33, .bool x0), (34, .ptr 14 0 0), (35, .ow 70003), (36, .int .i64 (s0.1.length : Int)), (37, .ptr 14 0 0), (39, .ptr 11 0 0), (40, .sl 2 (List.map a_Term p0.Facts)), (41, .int .i64 (n0 : Int)), (42, .cp [.int .i64 x42.Const, .sl 1 (List.map a_i64 x42.Coeffs)]), (43, .agg [.int .i64 x42.Const, .sl 1 (List.map a_i64 x42.Coeffs)])], [(11, .box [.sl 2 (List.map a_Term p0.Facts), .int .i64 p0.Goal.Const, .sl 1 (List.map a_i64 p0.Goal.Coeffs)]), (12, .box [.snil, .int .i64 (0 : Int), .snil]), (13, .arr ⟨false, true⟩ 1 2 (List.map a_i64 r20.Coeffs)), (14, .box [.ow 70003, .int .i64 r20.Const, .ow 13]), (15, .box [.ow 70006]), (16, .arr ⟨false, true⟩ 1 4 (List.map a_bool r26)), (70003, .arr ⟨false, true⟩ 2 40 (List.map a_Term s0.1)), (70006, .arr ⟨false, false⟩ 1 3 (List.map a_i64 s0.2))]⟩ ?_ (fun hS1942_6 => ?_)
        · refine TZ_each [1, 7] (by kernel_rfl) rfl ?_
          refine ⟨?_, ?_⟩
          · refine ⟨_, rfl, ?_⟩
            refine TL_pure rfl rfl rfl rfl (op_load_one ag39 rfl rfl) ?_
            refine TL_nil ?_
            refine TZ_keepH [1, 2, 4, 7, 8, 9, 10, 11, 26, 27, 28, 29, 30, 31, 32, 33, 34, 35, 36, 37, 38, 39, 40, 41, 42, 43] [11, 12, 13, 14, 15, 16, 70003, 70006] rfl rfl rfl rfl (by rw [hF]; rfl) ?_
            exact hS1942_2
          · refine ⟨_, rfl, ?_⟩
            refine TL_callO [(1000, 2583)] (c_impl_Term_own x42 r44 hr44) Try.call89 rfl rfl rfl rfl rfl rfl rfl rfl rfl rfl rfl rfl rfl ?_
            refine TL_nil ?_
            refine TZ_keepH [1, 2, 4, 7, 8, 9, 10, 11, 26, 27, 28, 29, 30, 31, 32, 33, 34, 35, 36, 37, 39, 40, 41, 42, 43, 44] [11, 12, 13, 14, 15, 16, 2583, 70003, 70006] rfl rfl rfl rfl (by rw [hF]; rfl) ?_
            exact hS1942_5
        refine TZ_cut 8 [true, false, true, true, true, false, false, false, false, false, false, false] ⟨[(1, .sl 5 (List.map a_Node p1)), (2, .ptr 11 0 0), (4, .ptr 12 0 0), (7, .ptr 14 0 0), (8, .ptr 15 0 0), (9, .int .i64 (n0 : Int)), (10, .bool x0), (11, .int .i64 (s0.1.length : Int)), (26, .ow 16), (27, .int .i64 (r26.length : Int)), (28, .int .i64 (n0 : Int)), (29, .bool (decide ((n0 : Int) < (r26.length : Int)))), (30, .int .i64 (n0 : Int)), (31, .ptr 16 n0 0), (32, .bool x0), (33, .bool x0), (34, .ptr 14 0 0), (35, .ow 70003), (36, .int .i64 (s0.1.length : Int)), (37, .ptr 14 0 0), (39, .ptr 11 0 0), (40, .sl 2 (List.map a_Term p0.Facts)), (41, .int .i64 (n0 : Int))], [(11, .box [.sl 2 (List.map a_Term p0.Facts), .int .i64 p0.Goal.Const, .sl 1 (List.map a_i64 p0.Goal.Coeffs)]), (12, .box [.snil, .int .i64 (0 : Int), .snil]), (13, .arr ⟨false, true⟩ 1 2 (List.map a_i64 r20.Coeffs)), (14, .box [.ow 70003, .int .i64 r20.Const, .ow 13]), (15, .box [.ow 70006]), (16, .arr ⟨false, true⟩ 1 4 (List.map a_bool r26)), (70003, .arr ⟨false, true⟩ 2 40 (List.map a_Term s0.1)), (70006, .arr ⟨false, false⟩ 1 3 (List.map a_i64 s0.2))]⟩ ?_ (fun hS1942_7 => ?_)
        · refine TZ_pure 5 (by kernel_rfl) rfl rfl rfl rfl rfl (op_indexT el39 rfl rfl hx42 rfl) ?_
          refine TZ_each [1, 6] (by kernel_rfl) rfl ?_
          refine ⟨?_, ?_⟩
          · refine ⟨_, rfl, ?_⟩
            refine TL_pure rfl rfl rfl rfl (op_load_one ag39 rfl rfl) ?_
            refine TL_nil ?_
            refine TZ_keepH [1, 2, 4, 7, 8, 9, 10, 11, 26, 27, 28, 29, 30, 31, 32, 33, 34, 35, 36, 37, 38, 39, 40, 41, 42] [11, 12, 13, 14, 15, 16, 70003, 70006] rfl rfl rfl rfl (by rw [hF]; rfl) ?_
            exact hS1942_1
          · refine ⟨_, rfl, ?_⟩
            refine TL_pure rfl rfl rfl rfl (op_load_agg ag40 sz40 rfl rfl rfl) ?_
            refine TL_nil ?_
            refine TZ_keepH [1, 2, 4, 7, 8, 9, 10, 11, 26, 27, 28, 29, 30, 31, 32, 33, 34, 35, 36, 37, 39, 40, 41, 42, 43] [11, 12, 13, 14, 15, 16, 70003, 70006] rfl rfl rfl rfl (by rw [hF]; rfl) ?_
            exact hS1942_6
        refine TZ_each [1, 3] (by kernel_rfl) rfl ?_
        refine ⟨?_, ?_⟩
        · refine ⟨_, rfl, ?_⟩
          refine TL_pure rfl rfl rfl rfl (op_load_one ag39 rfl rfl) ?_
          refine TL_nil ?_
          refine TZ_keepH [1, 2, 4, 7, 8, 9, 10, 11, 26, 27, 28, 29, 30, 31, 32, 33, 34, 35, 36, 37, 38, 39, 41] [11, 12, 13, 14, 15, 16, 70003, 70006] rfl rfl rfl rfl (by rw [hF]; rfl) ?_
          exact hS1942_0
        · refine ⟨_, rfl, ?_⟩
          refine TL_pure rfl rfl rfl rfl (op_load_one ag39 rfl rfl) ?_
          refine TL_nil ?_
          refine TZ_keepH [1, 2, 4, 7, 8, 9, 10, 11, 26, 27, 28, 29, 30, 31, 32, 33, 34, 35, 36, 37, 39, 40, 41] [11, 12, 13, 14, 15, 16, 70003, 70006] rfl rfl rfl rfl (by rw [hF]; rfl) ?_
          exact hS1942_7
      · replace hm := condF hq hm
        refine T_skip ?_
        refine T_region ?_
        refine TL_pure rfl rfl rfl rfl (op_load_one ag96 rfl rfl) ?_
        refine TL_pure rfl rfl rfl rfl (op_move rfl) ?_
        refine TL_buildSlice 2904 (es := List.map a_i64 [(-1 : Int)]) el96 z3 rfl rfl rfl rfl rfl rfl rfl rfl rfl ?_
        obtain ⟨q51, hq51, hm⟩ := bindS hm
        refine TL_appendT (f := a_i64) (a := s0.2) (b := [(-1 : Int)]) el96 z3 rfl rfl rfl rfl rfl rfl rfl (capI_spec hq51) rfl rfl rfl rfl rfl ?_
        refine TL_store_box sz96 rfl rfl rfl rfl rfl rfl rfl rfl rfl ?_
        refine TL_nil ?_
        refine T_region ?_
        refine TL_pure rfl rfl rfl rfl (op_addN rfl rfl (Nat.lt_of_lt_of_le hlt0 hlen27)) ?_
        refine TL_pure rfl rfl rfl rfl (op_move rfl) ?_
        refine TL_nil ?_
        refine TR_keepH [1, 2, 4, 7, 8, 26, 27, 28] [11, 12, 13, 14, 15, 16, 70003, 70006] rfl rfl rfl rfl (by rw [hF]; rfl) ?_
        obtain rfl := someI hm
        have hn := CtlOK_next hc0
        exact hn _ rfl
theorem c_spec_R8Term (p0 : List Int) (out : Term) (hm : m_spec_R8Term p0 = some out) : ACall Try.prog 39 [.sl 1 (List.map a_u8 p0)] [] (.agg [.int .i64 out.Const, .ow 1000]) [(1000, .arr ⟨false, true⟩ 1 2 (List.map a_i64 out.Coeffs))] := by
  refine ACall.intro Try.func39 rfl Try.ntmps39 rfl (fun F hF => ?_)
  unfold m_spec_R8Term at hm
  refine T_seq ?_
  refine T_region ?_
  refine TL_alloc 11 z40 rfl rfl rfl rfl rfl rfl rfl ?_
  refine TL_nil ?_
  refine T_seq ?_
  refine T_region ?_
  refine TL_pure rfl rfl rfl rfl (op_move rfl) ?_
  obtain ⟨r5, hr5, hm⟩ := bindS hm
  refine TLE_call [] [(1000, 12)] [] (c_spec_l00From p0 r5 hr5) (fun _ => rfl) Try.call70 rfl rfl rfl rfl rfl trivial rfl rfl rfl rfl rfl rfl rfl rfl rfl rfl rfl ?_
  refine TL_pure rfl rfl rfl rfl (op_assign rfl) ?_
  refine TL_nil ?_
  refine T_seq ?_
  refine T_region ?_
  refine TL_pure rfl rfl rfl rfl (op_move rfl) ?_
  obtain ⟨r7, hr7, hm⟩ := bindS hm
  refine TL_call [(0, 12)] [(1000, 13)] [] (c_spec_l05DrawTerm r5 r7 hr7) Try.call94 rfl rfl rfl rfl rfl ⟨rfl, trivial⟩ rfl rfl rfl rfl rfl rfl rfl rfl rfl rfl rfl ?_
  refine TL_store_box sz40 rfl rfl rfl rfl rfl rfl rfl rfl rfl ?_
  refine TL_nil ?_
  refine T_keepH [2] [11, 13] rfl rfl rfl rfl (by rw [hF]; rfl) ?_
  refine T_ren [(11, 11), (13, 1000)] rfl rfl rfl (by rw [hF]; rfl) ?_
  refine T_ret ?_
  obtain rfl := someI hm
  refine ⟨[_], [1000], ⟨⟨_, _, rfl, rfl, .inr ⟨ag40, _, _, sz40, rfl, rfl⟩⟩, trivial⟩, ?_, rfl, rfl, rfl, rfl⟩
  rfl
theorem c_impl_LiftProof_2 (p0 : Int) (p1_0 : Int) (p2_0 : Int) (out : Int) (hm : m_impl_LiftProof_2 p0 p1_0 p2_0 = some out) : ACall Try.prog 96 [.int .i64 p0, .cp [.int .i64 p1_0], .cp [.int .i64 p2_0]] [] (.int .i64 out) [] := by
  refine ACall.intro Try.func96 rfl Try.ntmps96 rfl (fun F hF => ?_)
  unfold m_impl_LiftProof_2 at hm
  refine T_seq ?_
  refine T_region ?_
  refine TL_pure rfl rfl rfl rfl (op_assign rfl) ?_
  refine TL_nil ?_
  refine T_seq ?_
  refine T_seq ?_
  refine T_region ?_
  refine TL_pure rfl rfl rfl rfl (op_move rfl) ?_
  refine TL_pure rfl rfl rfl rfl (op_load_one ag3 rfl rfl) ?_
  refine TL_pure rfl rfl rfl rfl (op_lss rfl rfl) ?_
  refine TL_nil ?_
  refine T_cond rfl (fun hq => ?_) (fun hq => ?_)
  · replace hm := condT hq hm
    refine T_seq ?_
    refine T_region ?_
    refine TL_pure rfl rfl rfl rfl (op_move rfl) ?_
    refine TL_pure rfl rfl rfl rfl (op_assign rfl) ?_
    refine TL_nil ?_
    refine T_keepH [4] [] rfl rfl rfl rfl (by rw [hF]; rfl) ?_
    refine T_ret ?_
    obtain rfl := someI hm
    refine ⟨[_], [], ⟨rfl, trivial⟩, ?_, rfl, rfl, rfl, rfl⟩
    rfl
  · replace hm := condF hq hm
    refine T_skip ?_
    refine T_seq ?_
    refine T_region ?_
    refine TL_pure rfl rfl rfl rfl (op_move rfl) ?_
    refine TL_pure rfl rfl rfl rfl (op_load_one ag3 rfl rfl) ?_
    refine TL_pure rfl rfl rfl rfl (op_addW rfl rfl) ?_
    refine TL_pure rfl rfl rfl rfl (op_assign rfl) ?_
    refine TL_nil ?_
    refine T_keepH [4] [] rfl rfl rfl rfl (by rw [hF]; rfl) ?_
    refine T_ret ?_
    obtain rfl := someI hm
    refine ⟨[_], [], ⟨rfl, trivial⟩, ?_, rfl, rfl, rfl, rfl⟩
    rfl
theorem c_impl_LiftProof_1 (p0 : Int) (p1_0 : Int) (out : Int) (hm : m_impl_LiftProof_1 p0 p1_0 = some out) : ACall Try.prog 95 [.int .i64 p0, .cp [.int .i64 p1_0]] [] (.int .i64 out) [] := by
  refine ACall.intro Try.func95 rfl Try.ntmps95 rfl (fun F hF => ?_)
  unfold m_impl_LiftProof_1 at hm
  refine T_seq ?_
  refine T_region ?_
  refine TL_pure rfl rfl rfl rfl (op_assign rfl) ?_
  refine TL_nil ?_
  refine T_seq ?_
  refine T_region ?_
  refine TL_pure rfl rfl rfl rfl (op_move rfl) ?_
  refine TL_pure rfl rfl rfl rfl (op_load_one ag3 rfl rfl) ?_
  refine TL_pure rfl rfl rfl rfl (op_addW rfl rfl) ?_
  refine TL_pure rfl rfl rfl rfl (op_assign rfl) ?_
  refine TL_nil ?_
  refine T_keepH [3] [] rfl rfl rfl rfl (by rw [hF]; rfl) ?_
  refine T_ret ?_
  obtain rfl := someI hm
  refine ⟨[_], [], ⟨rfl, trivial⟩, ?_, rfl, rfl, rfl, rfl⟩
  rfl
theorem c_impl_movedNodes_fLiftProof_1_LiftProof_2 (p0 : List Node) (v1_0_0 : Int) (v2_0_0 : Int) (v2_1_0 : Int) (out : List Node) (hm : m_impl_movedNodes_fLiftProof_1_LiftProof_2 p0 v1_0_0 v2_0_0 v2_1_0 = some out) : ACall Try.prog 84 [.sl 5 (List.map a_Node p0), .fn (.func 95) [] [.cp [.int .i64 v1_0_0]], .fn (.func 96) [] [.cp [.int .i64 v2_0_0], .cp [.int .i64 v2_1_0]]] [] (.sl 5 (List.map a_Node out)) [] := by
  refine ACall.intro Try.func84 rfl Try.ntmps84 rfl (fun F hF => ?_)
  unfold m_impl_movedNodes_fLiftProof_1_LiftProof_2 at hm
  refine T_seq ?_
  refine T_region ?_
  refine TL_pure rfl rfl rfl rfl (op_assign rfl) ?_
  refine TL_nil ?_
  refine T_seq ?_
  refine T_region ?_
  refine TL_pure rfl rfl rfl rfl (op_move rfl) ?_
  obtain ⟨r15, hr15, hm⟩ := bindS hm
  refine TL_callO [(1000, 11)] (c_impl_ownNodes p0 r15 hr15) Try.call52 rfl rfl rfl rfl rfl rfl rfl rfl rfl rfl rfl rfl rfl ?_
  refine TL_shallow 11 (by rw [hF]; rfl) rfl rfl rfl rfl ?_
  refine TL_pure rfl rfl rfl rfl (op_assign rfl) ?_
  refine TL_nil ?_
  refine T_seq ?_
  refine T_seq ?_
  refine T_region ?_
  refine TL_pure rfl rfl rfl rfl (op_move rfl) ?_
  refine TL_pure rfl rfl rfl rfl (op_lenO Try.underlying24 rfl rfl (List.length_map _)) ?_
  refine TL_fact (fun _ _ _ hr => RelP.owLen (id := 11) rfl hr) (fun hlen17 => ?_)
  rw [List.length_map] at hlen17
  refine TL_pure rfl rfl rfl rfl (op_move rfl) ?_
  refine TL_nil ?_
  refine T_block ?_
  refine T_keepH [1, 2, 7, 16, 17, 18] [11] rfl rfl rfl rfl (by rw [hF]; rfl) ?_
  refine T_loop ?_
  obtain ⟨u0, hl0, hm⟩ := bindS hm
  refine TR_iter2 (m_impl_movedNodes_fLiftProof_1_LiftProof_2_L0 v1_0_0 v2_0_0 v2_1_0 r15) (fun (s0 : (List Node) × Int) => ⟨[(1, .fn (.func 95) [] [.cp [.int .i64 v1_0_0]]), (2, .fn (.func 96) [] [.cp [.int .i64 v2_0_0], .cp [.int .i64 v2_1_0]]), (7, .ow 11), (16, .ow 11), (17, .int .i64 (r15.length : Int)), (18, .int .i64 s0.2)], [(11, .arr ⟨false, false⟩ 5 62 (List.map a_Node s0.1))]⟩) (fun u0 => .exit 0) (fun u0 => ⟨[(7, .ow 11)], [(11, .arr ⟨false, false⟩ 5 62 (List.map a_Node u0))]⟩) (fun u0 => m_impl_movedNodes_fLiftProof_1_LiftProof_2_A0 u0 = some out) hl0 hm (fun u0 hm => ?_) (fun hx0 s0 c0 hm hc0 => ?_)
  · unfold m_impl_movedNodes_fLiftProof_1_LiftProof_2_A0 at hm
    refine T_seq ?_
    refine T_region ?_
    refine TL_pure rfl rfl rfl rfl (op_move rfl) ?_
    refine TL_pure rfl rfl rfl rfl (op_assign rfl) ?_
    refine TL_nil ?_
    refine T_keepH [6] [11] rfl rfl rfl rfl (by rw [hF]; rfl) ?_
    refine T_freeze 11 (by rw [hF]; rfl) rfl rfl rfl ?_
    refine T_ret ?_
    obtain rfl := someI hm
    refine ⟨[_], [], ⟨rfl, trivial⟩, ?_, rfl, rfl, rfl, rfl⟩
    rfl
  · unfold m_impl_movedNodes_fLiftProof_1_LiftProof_2_L0 at hm
    refine T_seq ?_
    refine T_region ?_
    refine TL_pure rfl rfl rfl rfl (op_lss rfl rfl) ?_
    refine TL_nil ?_
    refine T_seq ?_
    refine T_cond rfl (fun hq => ?_) (fun hq => ?_)
    · replace hm := condT hq hm
      refine T_skip ?_
      refine T_seq ?_
      refine T_block ?_
      refine T_seq ?_
      refine T_region ?_
      refine TL_pure rfl rfl rfl rfl (op_move rfl) ?_
      obtain ⟨x21, hx21, hm⟩ := bindS hm
      refine TL_pure rfl rfl rfl rfl (op_indexO el24 rfl rfl rfl hx21) ?_
      refine TL_pure rfl rfl rfl rfl (op_loadTN ag62 sz62 rfl rfl ((getI_spec hx21).2) rfl rfl rfl) ?_
      refine TL_alloc 18 z62 rfl rfl rfl rfl rfl rfl rfl ?_
      refine TL_pure rfl rfl rfl rfl (op_assign rfl) ?_
      refine TL_store_box sz62 rfl rfl rfl rfl rfl rfl rfl rfl rfl ?_
      refine TL_nil ?_
      refine T_seq ?_
      refine T_region ?_
      refine TL_pure rfl rfl rfl rfl (op_fieldAddr fa62_0 rfl rfl) ?_
      refine TL_pure rfl rfl rfl rfl (op_load_one ag2 rfl rfl) ?_
      refine TL_nil ?_
      refine T_block ?_
      refine T_seq ?_
      refine T_region ?_
      refine TL_pure rfl rfl rfl rfl (op_eql rfl rfl) ?_
      refine TL_pure rfl rfl rfl rfl (op_assign rfl) ?_
      refine TL_nil ?_
      refine T_cond rfl (fun hq => ?_) (fun hq => ?_)
      · replace hm := condT hq hm
        refine T_region ?_
        refine TL_pure rfl rfl rfl rfl (op_move rfl) ?_
        refine TL_pure rfl rfl rfl rfl (op_move rfl) ?_
        refine TL_pure rfl rfl rfl rfl (op_move rfl) ?_
        refine TL_pure rfl rfl rfl rfl (op_fieldAddr fa62_1 rfl rfl) ?_
        refine TL_pure rfl rfl rfl rfl (op_load_one ag2 rfl rfl) ?_
        obtain ⟨r32, hr32, hm⟩ := bindS hm
        refine TL_callV rfl (c_impl_LiftProof_2 x21.Fact v2_0_0 v2_1_0 r32 hr32) Try.call96 rfl rfl rfl rfl rfl ?_
        refine TL_pure rfl rfl rfl rfl (op_indexO el24 rfl rfl rfl hx21) ?_
        refine TL_pure rfl rfl rfl rfl (op_fieldAddr fa62_1 rfl rfl) ?_
        refine TL_storeT sz2 rfl rfl ((getI_spec hx21).2) (v' := (Node.mk x21.Kind r32 x21.Term x21.Multipliers)) rfl rfl rfl rfl rfl rfl rfl rfl rfl rfl ?_
        refine TL_nil ?_
        refine T_region ?_
        refine TL_pure rfl rfl rfl rfl (op_addW rfl rfl) ?_
        refine TL_pure rfl rfl rfl rfl (op_move rfl) ?_
        refine TL_nil ?_
        refine TR_keepH [1, 2, 7, 16, 17, 18] [11] rfl rfl rfl rfl (by rw [hF]; rfl) ?_
        obtain rfl := someI hm
        have hn := CtlOK_next hc0
        exact hn _ rfl
      · replace hm := condF hq hm
        refine T_seq ?_
        refine T_region ?_
        refine TL_pure rfl rfl rfl rfl (op_eql rfl rfl) ?_
        refine TL_pure rfl rfl rfl rfl (op_assign rfl) ?_
        refine TL_nil ?_
        refine T_cond rfl (fun hq => ?_) (fun hq => ?_)
        · replace hm := condT hq hm
          refine T_seq ?_
          refine T_region ?_
          refine TL_pure rfl rfl rfl rfl (op_move rfl) ?_
          refine TL_pure rfl rfl rfl rfl (op_fieldAddr fa62_3 rfl rfl) ?_
          refine TL_pure rfl rfl rfl rfl (op_load_one ag32 rfl rfl) ?_
          refine TL_pure rfl rfl rfl rfl (op_lenT Try.underlying32 rfl (List.length_map _)) ?_
          refine TL_fact (fun _ _ _ hr => RelP.slLen (i := 39) rfl hr) (fun hlen40 => ?_)
          rw [List.length_map] at hlen40
          obtain ⟨r41, hr41, hm⟩ := bindS hm
          refine TL_callV rfl (c_impl_LiftProof_1 (x21.Multipliers.length : Int) v1_0_0 r41 hr41) Try.call95 rfl rfl rfl rfl rfl ?_
          obtain ⟨k42, hk42, hm⟩ := bindS hm
          refine TL_make 19 (n := k42) el32 z2 rfl rfl rfl rfl rfl rfl (makeI_spec hk42).1 (makeI_spec hk42).1 (makeI_spec hk42).2 rfl rfl rfl rfl ?_
          refine TL_nils 19 (List.map a_i64 (List.replicate k42 (0 : Int))) (by rw [hF]; rfl) rfl (ElR.rep (z := .int .i64 (0 : Int)) (g := a_i64) (x := (0 : Int)) ⟨⟨rfl, rfl⟩, trivial⟩ k42) rfl ?_
          refine TL_pure rfl rfl rfl rfl (op_assign rfl) ?_
          refine TL_nil ?_
          refine T_seq ?_
          refine T_seq ?_
          refine T_region ?_
          refine TL_pure rfl rfl rfl rfl (op_fieldAddr fa62_3 rfl rfl) ?_
          refine TL_pure rfl rfl rfl rfl (op_load_one ag32 rfl rfl) ?_
          refine TL_pure rfl rfl rfl rfl (op_lenT Try.underlying32 rfl (List.length_map _)) ?_
          refine TL_pure rfl rfl rfl rfl (op_move rfl) ?_
          refine TL_nil ?_
          refine T_block ?_
          refine T_keepH [1, 2, 7, 8, 10, 16, 17, 18, 44, 45, 46] [11, 19] rfl rfl rfl rfl (by rw [hF]; rfl) ?_
          refine T_loop ?_
          obtain ⟨u1, hl1, hm⟩ := bindS hm
          refine TR_forL2 x21.Multipliers (m_impl_movedNodes_fLiftProof_1_LiftProof_2_L1 v2_0_0 v2_1_0) (fun (s1 : List Int) => s1) (fun n1 (s1 : List Int) => ⟨[(1, .fn (.func 95) [] [.cp [.int .i64 v1_0_0]]), (2, .fn (.func 96) [] [.cp [.int .i64 v2_0_0], .cp [.int .i64 v2_1_0]]), (7, .ow 11), (8, .int .i64 s0.2), (10, .ow 19), (16, .ow 11), (17, .int .i64 (r15.length : Int)), (18, .int .i64 s0.2), (44, .sl 1 (List.map a_i64 x21.Multipliers)), (45, .int .i64 (x21.Multipliers.length : Int)), (46, .int .i64 (n1 : Int))], [(11, .arr ⟨false, false⟩ 5 62 (List.map a_Node s0.1)), (19, .arr ⟨false, false⟩ 1 2 (List.map a_i64 s1))]⟩) (fun u1 => .exit 3) (fun u1 => ⟨[(1, .fn (.func 95) [] [.cp [.int .i64 v1_0_0]]), (2, .fn (.func 96) [] [.cp [.int .i64 v2_0_0], .cp [.int .i64 v2_1_0]]), (7, .ow 11), (8, .int .i64 s0.2), (10, .ow 19), (16, .ow 11), (17, .int .i64 (r15.length : Int)), (18, .int .i64 s0.2)], [(11, .arr ⟨false, false⟩ 5 62 (List.map a_Node s0.1)), (19, .arr ⟨false, false⟩ 1 2 (List.map a_i64 u1))]⟩) (fun u1 => m_impl_movedNodes_fLiftProof_1_LiftProof_2_A1 s0 x21 u1 = some c0) hl1 hm (fun u1 hm => ?_) (fun hx1 s1 hm => ?_) (fun hx1 n1 x1 s1 c1 hxn1 hlt1 hm hc1 => ?_)
          · unfold m_impl_movedNodes_fLiftProof_1_LiftProof_2_A1 at hm
            refine T_region ?_
            refine TL_pure rfl rfl rfl rfl (op_move rfl) ?_
            refine TL_pure rfl rfl rfl rfl (op_move rfl) ?_
            refine TL_pure rfl rfl rfl rfl (op_move rfl) ?_
            refine TL_pure rfl rfl rfl rfl (op_indexO el24 rfl rfl rfl hx21) ?_
            refine TL_pure rfl rfl rfl rfl (op_fieldAddr fa62_3 rfl rfl) ?_
            refine TL_freeze 19 (by rw [hF]; rfl) rfl rfl rfl ?_
            refine TL_storeT sz32 rfl rfl ((getI_spec hx21).2) (v' := (Node.mk x21.Kind x21.Fact x21.Term u1)) rfl rfl rfl rfl rfl rfl rfl rfl rfl rfl ?_
            refine TL_nil ?_
            refine T_region ?_
            refine TL_pure rfl rfl rfl rfl (op_addW rfl rfl) ?_
            refine TL_pure rfl rfl rfl rfl (op_move rfl) ?_
            refine TL_nil ?_
            refine TR_keepH [1, 2, 7, 16, 17, 18] [11] rfl rfl rfl rfl (by rw [hF]; rfl) ?_
            obtain rfl := someI hm
            have hn := CtlOK_next hc0
            exact hn _ rfl
          · refine T_seq ?_
            refine T_region ?_
            refine TL_pure rfl rfl rfl rfl (op_lss rfl rfl) ?_
            refine TL_nil ?_
            refine T_seq ?_
            refine T_if_false rfl (decide_eq_false (by simp)) ?_
            refine T_keepH [1, 2, 7, 8, 10, 16, 17, 18] [11, 19] rfl rfl rfl rfl (by rw [hF]; rfl) ?_
            refine T_exit ?_
            exact hx1 s1 hm
          · unfold m_impl_movedNodes_fLiftProof_1_LiftProof_2_L1 at hm
            refine T_seq ?_
            refine T_region ?_
            refine TL_pure rfl rfl rfl rfl (op_lss rfl rfl) ?_
            refine TL_nil ?_
            refine T_seq ?_
            refine T_if_true rfl (decide_eq_true (Int.ofNat_lt.2 hlt1)) ?_
            refine T_skip ?_
            refine T_seq ?_
            refine T_block ?_
            refine T_seq ?_
            refine T_region ?_
            refine TL_pure rfl rfl rfl rfl (op_move rfl) ?_
            refine TL_pure rfl rfl rfl rfl (op_index_sl el32 rfl rfl rfl (get_map hxn1) rfl) ?_
            refine TL_pure rfl rfl rfl rfl (op_load_one ag2 rfl rfl) ?_
            refine TL_pure rfl rfl rfl rfl (op_assign rfl) ?_
            refine TL_pure rfl rfl rfl rfl (op_assign rfl) ?_
            refine TL_nil ?_
            refine T_seq ?_
            refine T_region ?_
            refine TL_pure rfl rfl rfl rfl (op_move rfl) ?_
            refine TL_pure rfl rfl rfl rfl (op_move rfl) ?_
            obtain ⟨r53, hr53, hm⟩ := bindS hm
            refine TL_callV rfl (c_impl_LiftProof_2 (n1 : Int) v2_0_0 v2_1_0 r53 hr53) Try.call96 rfl rfl rfl rfl rfl ?_
            refine TL_pure rfl rfl rfl rfl (op_assign rfl) ?_
            refine TL_nil ?_
            refine T_seq ?_
            refine T_region ?_
            refine TL_pure rfl rfl rfl rfl (op_move rfl) ?_
            refine TL_pure rfl rfl rfl rfl (op_geq rfl rfl) ?_
            refine TL_nil ?_
            refine T_cond rfl (fun hq => ?_) (fun hq => ?_)
            · replace hm := condT hq hm
              refine T_region ?_
              refine TL_pure rfl rfl rfl rfl (op_move rfl) ?_
              refine TL_pure rfl rfl rfl rfl (op_move rfl) ?_
              refine TL_pure rfl rfl rfl rfl (op_move rfl) ?_
              obtain ⟨x59, hx59, hm⟩ := bindS hm
              refine TL_pure rfl rfl rfl rfl (op_indexO el32 rfl rfl rfl hx59) ?_
              refine TL_storeT sz2 rfl rfl ((getI_spec hx59).2) (v' := x1) rfl rfl rfl rfl rfl rfl rfl rfl rfl rfl ?_
              refine TL_nil ?_
              refine T_region ?_
              refine TL_pure rfl rfl rfl rfl (op_addN rfl rfl (Nat.lt_of_lt_of_le hlt1 hlen40)) ?_
              refine TL_pure rfl rfl rfl rfl (op_move rfl) ?_
              refine TL_nil ?_
              refine TR_keepH [1, 2, 7, 8, 10, 16, 17, 18, 44, 45, 46] [11, 19] rfl rfl rfl rfl (by rw [hF]; rfl) ?_
              obtain rfl := someI hm
              have hn := CtlOK_next hc1
              exact hn _ rfl
            · replace hm := condF hq hm
              refine T_skip ?_
              refine T_region ?_
              refine TL_pure rfl rfl rfl rfl (op_addN rfl rfl (Nat.lt_of_lt_of_le hlt1 hlen40)) ?_
              refine TL_pure rfl rfl rfl rfl (op_move rfl) ?_
              refine TL_nil ?_
              refine TR_keepH [1, 2, 7, 8, 10, 16, 17, 18, 44, 45, 46] [11, 19] rfl rfl rfl rfl (by rw [hF]; rfl) ?_
              obtain rfl := someI hm
              have hn := CtlOK_next hc1
              exact hn _ rfl
        · replace hm := condF hq hm
          refine T_skip ?_
          refine T_region ?_
          refine TL_pure rfl rfl rfl rfl (op_addW rfl rfl) ?_
          refine TL_pure rfl rfl rfl rfl (op_move rfl) ?_
          refine TL_nil ?_
          refine TR_keepH [1, 2, 7, 16, 17, 18] [11] rfl rfl rfl rfl (by rw [hF]; rfl) ?_
          obtain rfl := someI hm
          have hn := CtlOK_next hc0
          exact hn _ rfl
    · replace hm := condF hq hm
      refine T_keepH [7] [11] rfl rfl rfl rfl (by rw [hF]; rfl) ?_
      refine T_exit ?_
      obtain rfl := someI hm
      have hn := CtlOK_out hc0
      exact hx0 s0.1 hn
theorem c_impl_accepted (p0 : Sequent) (p1 : List Node) (out : Sequent × (List Node) × Bool) (hm : m_impl_accepted p0 p1 = some out) : ACall Try.prog 90 [.agg [.sl 2 (List.map a_Term p0.Facts), .int .i64 p0.Goal.Const, .sl 1 (List.map a_i64 p0.Goal.Coeffs)], .sl 5 (List.map a_Node p1)] [] (.tup [.agg [.sl 2 (List.map a_Term out.1.Facts), .int .i64 out.1.Goal.Const, .sl 1 (List.map a_i64 out.1.Goal.Coeffs)], .sl 5 (List.map a_Node out.2.1), .bool out.2.2]) [] := by
  refine ACall.intro Try.func90 rfl Try.ntmps90 rfl (fun F hF => ?_)
  unfold m_impl_accepted at hm
  refine T_seq ?_
  refine T_region ?_
  refine TL_box 11 rfl rfl rfl rfl rfl rfl rfl ?_
  refine TL_alloc 12 z42 rfl rfl rfl rfl rfl rfl rfl ?_
  refine TL_pure rfl rfl rfl rfl (op_assign rfl) ?_
  refine TL_pure rfl rfl rfl rfl (op_assign rfl) ?_
  refine TL_nil ?_
  refine T_seq ?_
  refine T_seq ?_
  refine T_region ?_
  refine TL_pure rfl rfl rfl rfl (op_load_agg ag42 sz42 rfl rfl rfl) ?_
  refine TL_pure rfl rfl rfl rfl (op_move rfl) ?_
  obtain ⟨r9, hr9, hm⟩ := bindS hm
  refine TL_callF (c_impl_CheckProof p0 p1 r9 hr9) Try.call28 rfl rfl rfl rfl rfl ?_
  refine TL_pure rfl rfl rfl rfl (op_not rfl) ?_
  refine TL_nil ?_
  refine T_cond rfl (fun hq => ?_) (fun hq => ?_)
  · replace hm := condT hq hm
    refine T_seq ?_
    refine T_region ?_
    refine TL_pure rfl rfl rfl rfl (op_buildP pl42 z42 rfl rfl rfl rfl rfl) ?_
    refine TL_store_box sz42 rfl rfl rfl rfl rfl rfl rfl rfl rfl ?_
    refine TL_pure rfl rfl rfl rfl (op_assign rfl) ?_
    refine TL_pure rfl rfl rfl rfl (op_assign rfl) ?_
    refine TL_nil ?_
    refine T_keepH [4, 5, 6] [12] rfl rfl rfl rfl (by rw [hF]; rfl) ?_
    refine T_nilAt 5 (x' := .sl 5 (List.map a_Node ([] : List Node))) rfl (.inr ⟨_, rfl⟩) rfl ?_
    refine T_nilBox 12 (cs' := [.sl 2 (List.map a_Term ([] : List Term)), .int .i64 (0 : Int), .sl 1 (List.map a_i64 ([] : List Int))]) rfl (⟨_, _, rfl, .inr ⟨_, rfl⟩, ⟨_, _, rfl, rfl, ⟨_, _, rfl, .inr ⟨_, rfl⟩, rfl⟩⟩⟩) rfl ?_
    refine T_ret ?_
    obtain rfl := someI hm
    refine ⟨[_, _, _], [], ⟨⟨_, _, rfl, rfl, .inr ⟨ag42, _, _, sz42, rfl, rfl⟩⟩, rfl, rfl, trivial⟩, ?_, rfl, rfl, rfl, rfl⟩
    rfl
  · replace hm := condF hq hm
    refine T_skip ?_
    refine T_seq ?_
    refine T_region ?_
    refine TL_pure rfl rfl rfl rfl (op_load_agg ag42 sz42 rfl rfl rfl) ?_
    refine TL_pure rfl rfl rfl rfl (op_move rfl) ?_
    refine TL_store_box sz42 rfl rfl rfl rfl rfl rfl rfl rfl rfl ?_
    refine TL_pure rfl rfl rfl rfl (op_assign rfl) ?_
    refine TL_pure rfl rfl rfl rfl (op_assign rfl) ?_
    refine TL_nil ?_
    refine T_keepH [4, 5, 6] [12] rfl rfl rfl rfl (by rw [hF]; rfl) ?_
    refine T_ret ?_
    obtain rfl := someI hm
    refine ⟨[_, _, _], [], ⟨⟨_, _, rfl, rfl, .inr ⟨ag42, _, _, sz42, rfl, rfl⟩⟩, rfl, rfl, trivial⟩, ?_, rfl, rfl, rfl, rfl⟩
    rfl
end Go.Mod
