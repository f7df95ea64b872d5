import Derived.Test.YtmnjgboladaklaaGe
namespace Go.Mod
open Go Go.AM Go.Proofs
set_option linter.unusedVariables false
set_option linter.unusedSimpArgs false
set_option maxRecDepth 100000
set_option maxHeartbeats 8000000
theorem c_impl_treeAt_F (rec_impl_treeAt : (List Stmt) → Int → Option (Ptree × Int × Bool)) (hrec_impl_treeAt : ∀ (p0 : List Stmt) (p1 : Int) (out : Ptree × Int × Bool), rec_impl_treeAt p0 p1 = some out → ACall Try.prog 97 [.sl 8 (List.map a_Stmt p0), .int .i64 p1] [] (.tup [a_Ptree out.1, .int .i64 out.2.1, .bool out.2.2]) []) (p0 : List Stmt) (p1 : Int) (out : Ptree × Int × Bool) (hm : m_impl_treeAt_F rec_impl_treeAt p0 p1 = some out) : ACall Try.prog 97 [.sl 8 (List.map a_Stmt p0), .int .i64 p1] [] (.tup [a_Ptree out.1, .int .i64 out.2.1, .bool out.2.2]) [] := by
  refine ACall.intro Try.func97 rfl Try.ntmps97 rfl (fun F hF => ?_)
  unfold m_impl_treeAt_F at hm
  refine T_seq ?_
  refine T_region ?_
  refine TL_pure rfl rfl rfl rfl (op_assign rfl) ?_
  refine TL_pure rfl rfl rfl rfl (op_assign rfl) ?_
  refine TL_pure rfl rfl rfl rfl (op_assign rfl) ?_
  refine TL_nil ?_
  refine T_seq ?_
  refine T_seq ?_
  refine T_region ?_
  refine TL_pure rfl rfl rfl rfl (op_move rfl) ?_
  refine TL_pure rfl rfl rfl rfl (op_move rfl) ?_
  refine TL_pure rfl rfl rfl rfl (op_lenT Try.underlying31 rfl (List.length_map _)) ?_
  refine TL_fact (fun _ _ _ hr => RelP.slLen (i := 13) rfl hr) (fun hlen14 => ?_)
  rw [List.length_map] at hlen14
  refine TL_pure rfl rfl rfl rfl (op_geq rfl rfl) ?_
  refine TL_nil ?_
  refine T_cond rfl (fun hq => ?_) (fun hq => ?_)
  · replace hm := condT hq hm
    refine T_seq ?_
    refine T_region ?_
    refine TL_pure rfl rfl rfl rfl (op_assign rfl) ?_
    refine TL_pure rfl rfl rfl rfl (op_assign rfl) ?_
    refine TL_pure rfl rfl rfl rfl (op_assign rfl) ?_
    refine TL_nil ?_
    refine T_trAt 4 (x' := a_Ptree (.nil : Ptree)) rfl (TrR_nil) rfl ?_
    refine T_keepH [4, 5, 6] [] rfl rfl rfl rfl (by rw [hF]; rfl) ?_
    refine T_ret ?_
    obtain rfl := someI hm
    refine ⟨[_, _, _], [], ⟨rfl, rfl, rfl, trivial⟩, ?_, rfl, rfl, rfl, rfl⟩
    rfl
  · replace hm := condF hq hm
    refine T_skip ?_
    refine T_seq ?_
    refine T_region ?_
    refine TL_pure rfl rfl rfl rfl (op_move rfl) ?_
    refine TL_pure rfl rfl rfl rfl (op_move rfl) ?_
    obtain ⟨x18, hx18, hm⟩ := bindS hm
    refine TL_pure rfl rfl rfl rfl (op_indexT el31 rfl rfl hx18 rfl) ?_
    refine TL_pure rfl rfl rfl rfl (op_load_agg ag69 sz69 rfl rfl rfl) ?_
    obtain ⟨r20, hr20, hm⟩ := bindS hm
    refine TL_callF (c_impl_kidsOf x18 r20 hr20) Try.call117 rfl rfl rfl rfl rfl ?_
    refine TL_pure rfl rfl rfl rfl (op_assign rfl) ?_
    refine TL_nil ?_
    refine T_seq ?_
    refine T_seq ?_
    refine T_region ?_
    refine TL_pure rfl rfl rfl rfl (op_move rfl) ?_
    refine TL_pure rfl rfl rfl rfl (op_lss rfl rfl) ?_
    refine TL_nil ?_
    refine T_cond rfl (fun hq => ?_) (fun hq => ?_)
    · replace hm := condT hq hm
      refine T_seq ?_
      refine T_region ?_
      refine TL_pure rfl rfl rfl rfl (op_assign rfl) ?_
      refine TL_pure rfl rfl rfl rfl (op_assign rfl) ?_
      refine TL_pure rfl rfl rfl rfl (op_assign rfl) ?_
      refine TL_nil ?_
      refine T_trAt 4 (x' := a_Ptree (.nil : Ptree)) rfl (TrR_nil) rfl ?_
      refine T_keepH [4, 5, 6] [] rfl rfl rfl rfl (by rw [hF]; rfl) ?_
      refine T_ret ?_
      obtain rfl := someI hm
      refine ⟨[_, _, _], [], ⟨rfl, rfl, rfl, trivial⟩, ?_, rfl, rfl, rfl, rfl⟩
      rfl
    · replace hm := condF hq hm
      refine T_skip ?_
      refine T_seq ?_
      refine T_region ?_
      refine TL_pure rfl rfl rfl rfl (op_move rfl) ?_
      refine TL_pure rfl rfl rfl rfl (op_move rfl) ?_
      refine TL_pure rfl rfl rfl rfl (op_indexT el31 rfl rfl hx18 rfl) ?_
      refine TL_pure rfl rfl rfl rfl (op_load_agg ag69 sz69 rfl rfl rfl) ?_
      refine TL_pure rfl rfl rfl rfl (op_move rfl) ?_
      refine TL_pure rfl rfl rfl rfl (op_buildP pl94 z94 rfl rfl rfl rfl rfl) ?_
      refine TL_box 11 rfl rfl rfl rfl rfl rfl rfl ?_
      refine TL_pure rfl rfl rfl rfl (op_assign rfl) ?_
      refine TL_nil ?_
      refine T_seq ?_
      refine T_region ?_
      refine TL_pure rfl rfl rfl rfl (op_move rfl) ?_
      refine TL_pure rfl rfl rfl rfl (op_addW rfl rfl) ?_
      refine TL_pure rfl rfl rfl rfl (op_assign rfl) ?_
      refine TL_nil ?_
      refine T_seq ?_
      refine T_block ?_
      refine T_ownNilBox 11 9 16 ⟨false, false⟩ 87 rfl rfl rfl (sz := 1) rfl rfl rfl rfl ?_
      refine T_keepH [0, 1, 7, 8] [11, 16] rfl rfl rfl rfl (by rw [hF]; rfl) ?_
      refine T_ren [(11, 11), (16, 70001)] rfl rfl rfl (by rw [hF]; rfl) ?_
      refine T_loop ?_
      obtain ⟨u0, hl0, hm⟩ := bindS hm
      refine TR_iter2 (m_impl_treeAt_F_L0 rec_impl_treeAt p0) (fun (s0 : Int × Int × (List Ptree)) => ⟨[(0, .sl 8 (List.map a_Stmt p0)), (1, .int .i64 s0.1), (7, .int .i64 s0.2.1), (8, .ptr 11 0 0)], [(11, .box [.int .i64 x18.Kind, .int .i64 x18.Var, .int .i64 x18.Event, .int .i64 x18.Sum.Const, .sl 1 (List.map a_i64 x18.Sum.Coeffs), .int .i64 x18.Index.Const, .sl 1 (List.map a_i64 x18.Index.Coeffs), .sl 2 (List.map a_Term x18.Facts), .int .i64 p1, .ow 70001]), (70001, .arr ⟨false, false⟩ 1 87 (List.map a_Ptree s0.2.2))]⟩) (fun u0 => match u0 with | .inl u0 => .exit 0 | .inr u0 => .ret) (fun u0 => match u0 with | .inl u0 => ⟨[(1, .int .i64 u0.1), (8, .ptr 11 0 0)], [(11, .box [.int .i64 x18.Kind, .int .i64 x18.Var, .int .i64 x18.Event, .int .i64 x18.Sum.Const, .sl 1 (List.map a_i64 x18.Sum.Coeffs), .int .i64 x18.Index.Const, .sl 1 (List.map a_i64 x18.Index.Coeffs), .sl 2 (List.map a_Term x18.Facts), .int .i64 p1, .ow 70001]), (70001, .arr ⟨false, false⟩ 1 87 (List.map a_Ptree u0.2))]⟩ | .inr u0 => ⟨[(4, a_Ptree u0.1), (5, .int .i64 u0.2.1), (6, .bool u0.2.2)], []⟩) (fun u0 => m_impl_treeAt_F_A0 p1 x18 u0 = some out) hl0 hm (fun u0 hm => ?_) (fun hx0 s0 c0 hm hc0 => ?_)
      · rcases u0 with u0 | u0
        · unfold m_impl_treeAt_F_A0 at hm
          refine T_seq ?_
          refine T_region ?_
          refine TL_pure rfl rfl rfl rfl (op_move rfl) ?_
          refine TL_pure rfl rfl rfl rfl (op_move rfl) ?_
          refine TL_pure rfl rfl rfl rfl (op_assign rfl) ?_
          refine TL_pure rfl rfl rfl rfl (op_assign rfl) ?_
          refine TL_pure rfl rfl rfl rfl (op_assign rfl) ?_
          refine TL_nil ?_
          refine T_freeze 70001 (by rw [hF]; rfl) rfl rfl rfl ?_
          refine T_freezeB 11 (by rw [hF]; rfl) rfl rfl rfl rfl ?_
          refine T_trAt 4 (x' := a_Ptree (re_tree (tree.mk x18 p1 u0.2))) rfl (TrR_fold (re_tree_eq (tree.mk x18 p1 u0.2))) rfl ?_
          refine T_keepH [4, 5, 6] [] rfl rfl rfl rfl (by rw [hF]; rfl) ?_
          refine T_ret ?_
          obtain rfl := someI hm
          refine ⟨[_, _, _], [], ⟨rfl, rfl, rfl, trivial⟩, ?_, rfl, rfl, rfl, rfl⟩
          rfl
        · unfold m_impl_treeAt_F_A0 at hm
          obtain rfl := someI hm
          refine ⟨[_, _, _], [], ⟨rfl, rfl, rfl, trivial⟩, ?_, rfl, rfl, rfl, rfl⟩
          rfl
      · unfold m_impl_treeAt_F_L0 at hm
        refine T_seq ?_
        refine T_seq ?_
        refine T_region ?_
        refine TL_pure rfl rfl rfl rfl (op_move rfl) ?_
        refine TL_pure rfl rfl rfl rfl (op_gtr rfl rfl) ?_
        refine TL_nil ?_
        refine T_cond rfl (fun hq => ?_) (fun hq => ?_)
        · replace hm := condT hq hm
          refine T_skip ?_
          refine T_seq ?_
          refine T_block ?_
          refine T_seq ?_
          refine T_region ?_
          refine TL_pure rfl rfl rfl rfl (op_move rfl) ?_
          refine TL_pure rfl rfl rfl rfl (op_move rfl) ?_
          obtain ⟨r39, hr39, hm⟩ := bindS hm
          refine TL_callT (hrec_impl_treeAt p0 s0.1 r39 hr39) Try.call97 rfl rfl rfl rfl rfl ?_
          refine TL_pure rfl rfl rfl rfl (op_move rfl) ?_
          refine TL_pure rfl rfl rfl rfl (op_extract rfl rfl) ?_
          refine TL_pure rfl rfl rfl rfl (op_extract rfl rfl) ?_
          refine TL_pure rfl rfl rfl rfl (op_extract rfl rfl) ?_
          refine TL_pure rfl rfl rfl rfl (op_assign rfl) ?_
          refine TL_pure rfl rfl rfl rfl (op_assign rfl) ?_
          refine TL_pure rfl rfl rfl rfl (op_assign rfl) ?_
          refine TL_nil ?_
          refine T_seq ?_
          refine T_seq ?_
          refine T_region ?_
          refine TL_pure rfl rfl rfl rfl (op_move rfl) ?_
          refine TL_pure rfl rfl rfl rfl (op_not rfl) ?_
          refine TL_nil ?_
          refine T_cond rfl (fun hq => ?_) (fun hq => ?_)
          · replace hm := condT hq hm
            refine T_seq ?_
            refine T_region ?_
            refine TL_pure rfl rfl rfl rfl (op_assign rfl) ?_
            refine TL_pure rfl rfl rfl rfl (op_assign rfl) ?_
            refine TL_pure rfl rfl rfl rfl (op_assign rfl) ?_
            refine TL_nil ?_
            refine T_trAt 4 (x' := a_Ptree (.nil : Ptree)) rfl (TrR_nil) rfl ?_
            refine T_keepH [4, 5, 6] [] rfl rfl rfl rfl (by rw [hF]; rfl) ?_
            refine T_ret ?_
            obtain rfl := someI hm
            have hn := CtlOK_out hc0
            exact hx0 (.inr ((.nil : Ptree), (0 : Int), false)) hn
          · replace hm := condF hq hm
            refine T_skip ?_
            refine T_seq ?_
            refine T_region ?_
            refine TL_pure rfl rfl rfl rfl (op_move rfl) ?_
            refine TL_pure rfl rfl rfl rfl (op_move rfl) ?_
            refine TL_pure rfl rfl rfl rfl (op_nilCheck rfl rfl) ?_
            refine TL_pure rfl rfl rfl rfl (op_fieldAddr fa94_2 rfl rfl) ?_
            refine TL_pure rfl rfl rfl rfl (op_load_one ag88 rfl rfl) ?_
            refine TL_pure rfl rfl rfl rfl (op_move rfl) ?_
            refine TL_buildSlice 15 (es := List.map a_Ptree [r39.1]) el88 z87 rfl rfl rfl rfl rfl rfl rfl rfl rfl ?_
            obtain ⟨q52, hq52, hm⟩ := bindS hm
            refine TL_appendT (f := a_Ptree) (a := s0.2.2) (b := [r39.1]) el88 z87 rfl rfl rfl rfl rfl rfl rfl (capI_spec hq52) rfl rfl rfl rfl rfl ?_
            refine TL_pure rfl rfl rfl rfl (op_nilCheck rfl rfl) ?_
            refine TL_pure rfl rfl rfl rfl (op_fieldAddr fa94_2 rfl rfl) ?_
            refine TL_store_box sz88 rfl rfl rfl rfl rfl rfl rfl rfl rfl ?_
            refine TL_nil ?_
            refine T_region ?_
            refine TL_pure rfl rfl rfl rfl (op_move rfl) ?_
            refine TL_pure rfl rfl rfl rfl (op_assign rfl) ?_
            refine TL_nil ?_
            refine T_region ?_
            refine TL_pure rfl rfl rfl rfl (op_move rfl) ?_
            refine TL_pure rfl rfl rfl rfl (op_subW rfl rfl) ?_
            refine TL_pure rfl rfl rfl rfl (op_assign rfl) ?_
            refine TL_nil ?_
            refine TR_keepH [0, 1, 7, 8] [11, 70001] rfl rfl rfl rfl (by rw [hF]; rfl) ?_
            obtain rfl := someI hm
            have hn := CtlOK_next hc0
            exact hn _ rfl
        · replace hm := condF hq hm
          refine T_keepH [1, 8] [11, 70001] rfl rfl rfl rfl (by rw [hF]; rfl) ?_
          refine T_exit ?_
          obtain rfl := someI hm
          have hn := CtlOK_out hc0
          exact hx0 (.inl (s0.1, s0.2.2)) hn
theorem c_impl_treeAt : ∀ (n : Nat) (p0 : List Stmt) (p1 : Int) (out : Ptree × Int × Bool), m_impl_treeAt n p0 p1 = some out → ACall Try.prog 97 [.sl 8 (List.map a_Stmt p0), .int .i64 p1] [] (.tup [a_Ptree out.1, .int .i64 out.2.1, .bool out.2.2]) [] := by
  intro n
  induction n with
  | zero => intro p0 p1 out hm; cases hm
  | succ n ih => intro p0 p1 out hm; exact c_impl_treeAt_F (m_impl_treeAt n) ih p0 p1 out hm
theorem c_impl_treeOf (p0 : List Stmt) (out : Ptree × Bool) (hm : m_impl_treeOf p0 = some out) : ACall Try.prog 75 [.sl 8 (List.map a_Stmt p0)] [] (.tup [a_Ptree out.1, .bool out.2]) [] := by
  refine ACall.intro Try.func75 rfl Try.ntmps75 rfl (fun F hF => ?_)
  unfold m_impl_treeOf at hm
  refine T_seq ?_
  refine T_region ?_
  refine TL_pure rfl rfl rfl rfl (op_assign rfl) ?_
  refine TL_pure rfl rfl rfl rfl (op_assign rfl) ?_
  refine TL_nil ?_
  refine T_seq ?_
  refine T_seq ?_
  refine T_region ?_
  refine TL_pure rfl rfl rfl rfl (op_move rfl) ?_
  refine TL_pure rfl rfl rfl rfl (op_lenT Try.underlying31 rfl (List.length_map _)) ?_
  refine TL_fact (fun _ _ _ hr => RelP.slLen (i := 7) rfl hr) (fun hlen8 => ?_)
  rw [List.length_map] at hlen8
  refine TL_pure rfl rfl rfl rfl (op_gtr rfl rfl) ?_
  refine TL_nil ?_
  refine T_cond rfl (fun hq => ?_) (fun hq => ?_)
  · replace hm := condT hq hm
    refine T_seq ?_
    refine T_region ?_
    refine TL_pure rfl rfl rfl rfl (op_assign rfl) ?_
    refine TL_pure rfl rfl rfl rfl (op_assign rfl) ?_
    refine TL_nil ?_
    refine T_trAt 2 (x' := a_Ptree (.nil : Ptree)) rfl (TrR_nil) rfl ?_
    refine T_keepH [2, 3] [] rfl rfl rfl rfl (by rw [hF]; rfl) ?_
    refine T_ret ?_
    obtain rfl := someI hm
    refine ⟨[_, _], [], ⟨rfl, rfl, trivial⟩, ?_, rfl, rfl, rfl, rfl⟩
    rfl
  · replace hm := condF hq hm
    refine T_skip ?_
    refine T_seq ?_
    refine T_region ?_
    refine TL_pure rfl rfl rfl rfl (op_move rfl) ?_
    obtain ⟨r12, hr12, hm⟩ := bindS hm
    refine TL_callT (c_impl_treeAt 1000 p0 (0 : Int) r12 hr12) Try.call97 rfl rfl rfl rfl rfl ?_
    refine TL_pure rfl rfl rfl rfl (op_move rfl) ?_
    refine TL_pure rfl rfl rfl rfl (op_extract rfl rfl) ?_
    refine TL_pure rfl rfl rfl rfl (op_extract rfl rfl) ?_
    refine TL_pure rfl rfl rfl rfl (op_extract rfl rfl) ?_
    refine TL_pure rfl rfl rfl rfl (op_assign rfl) ?_
    refine TL_pure rfl rfl rfl rfl (op_assign rfl) ?_
    refine TL_pure rfl rfl rfl rfl (op_assign rfl) ?_
    refine TL_nil ?_
    refine T_seq ?_
    refine T_region ?_
    refine TL_pure rfl rfl rfl rfl (op_move rfl) ?_
    refine TL_pure rfl rfl rfl rfl (op_move rfl) ?_
    refine TL_pure rfl rfl rfl rfl (op_move rfl) ?_
    refine TL_join 5 (fun _ : Unit => ⟨[(16, a_Ptree r12.1), (23, .bool (r12.2.2 && (decide (r12.2.1 = (p0.length : Int)))))], []⟩) (fun _ => True) (fun _ _ => ?_) (fun hjj => ?_)
    · refine TL_pure rfl rfl rfl rfl (op_assign rfl) ?_
      refine TL_pure rfl rfl rfl rfl (op_assign rfl) ?_
      refine TL_nil ?_
      refine T_keepH [2, 3] [] rfl rfl rfl rfl (by rw [hF]; rfl) ?_
      refine T_ret ?_
      obtain rfl := someI hm
      refine ⟨[_, _], [], ⟨rfl, rfl, trivial⟩, ?_, rfl, rfl, rfl, rfl⟩
      rfl
    · refine TL_split 18 rfl rfl rfl (fun hq => ?_) (fun hq => ?_)
      · refine TL_want rfl rfl ?_
        refine TL_pure rfl rfl rfl rfl (op_move rfl) ?_
        refine TL_want rfl rfl ?_
        refine TL_pure rfl rfl rfl rfl (op_move rfl) ?_
        refine TL_want rfl rfl ?_
        refine TL_pure rfl rfl rfl rfl (op_lenT Try.underlying31 rfl (List.length_map _)) ?_
        refine TL_want rfl rfl ?_
        refine TL_pure rfl rfl rfl rfl (op_eql rfl rfl) ?_
        refine TL_pure rfl rfl rfl rfl (op_pick_true rfl rfl) ?_
        refine TL_keepH [16, 23] [] rfl rfl rfl rfl (by rw [hF]; rfl) ?_
        exact TL_cast _ (by first | (rw [hq, Bool.true_and]; done) | (rw [hq]; rfl)) (hjj () trivial)
      · refine TL_pass rfl rfl rfl rfl rfl rfl rfl ?_
        refine TL_pass rfl rfl rfl rfl rfl rfl rfl ?_
        refine TL_pass rfl rfl rfl rfl rfl rfl rfl ?_
        refine TL_pass rfl rfl rfl rfl rfl rfl rfl ?_
        refine TL_pure rfl rfl rfl rfl (op_pick_false rfl rfl) ?_
        refine TL_keepH [16, 23] [] rfl rfl rfl rfl (by rw [hF]; rfl) ?_
        exact TL_cast _ (by first | (rw [hq, Bool.false_and]; done) | (rw [hq]; rfl)) (hjj () trivial)
theorem c_impl_IsBody (p0 : List Stmt) (out : Bool) (hm : m_impl_IsBody p0 = some out) : ACall Try.prog 96 [.sl 8 (List.map a_Stmt p0)] [] (.bool out) [] := by
  refine ACall.intro Try.func96 rfl Try.ntmps96 rfl (fun F hF => ?_)
  unfold m_impl_IsBody at hm
  refine T_seq ?_
  refine T_region ?_
  refine TL_pure rfl rfl rfl rfl (op_assign rfl) ?_
  refine TL_nil ?_
  refine T_seq ?_
  refine T_region ?_
  refine TL_pure rfl rfl rfl rfl (op_move rfl) ?_
  obtain ⟨r7, hr7, hm⟩ := bindS hm
  refine TL_callT (c_impl_treeOf p0 r7 hr7) Try.call75 rfl rfl rfl rfl rfl ?_
  refine TL_pure rfl rfl rfl rfl (op_move rfl) ?_
  refine TL_pure rfl rfl rfl rfl (op_extract rfl rfl) ?_
  refine TL_pure rfl rfl rfl rfl (op_extract rfl rfl) ?_
  refine TL_pure rfl rfl rfl rfl (op_assign rfl) ?_
  refine TL_pure rfl rfl rfl rfl (op_assign rfl) ?_
  refine TL_nil ?_
  refine T_seq ?_
  refine T_region ?_
  refine TL_pure rfl rfl rfl rfl (op_move rfl) ?_
  refine TL_pure rfl rfl rfl rfl (op_assign rfl) ?_
  refine TL_nil ?_
  refine T_keepH [2] [] rfl rfl rfl rfl (by rw [hF]; rfl) ?_
  refine T_ret ?_
  obtain rfl := someI hm
  refine ⟨[_], [], ⟨rfl, trivial⟩, ?_, rfl, rfl, rfl, rfl⟩
  rfl
theorem c_impl_ValidProgram (p0 : Program) (out : Bool) (hm : m_impl_ValidProgram p0 = some out) : ACall Try.prog 74 [.agg [.sl 2 (List.map a_Term p0.Pre), .sl 8 (List.map a_Stmt p0.Body), .sl 2 (List.map a_Term p0.Post)]] [] (.bool out) [] := by
  refine ACall.intro Try.func74 rfl Try.ntmps74 rfl (fun F hF => ?_)
  unfold m_impl_ValidProgram at hm
  refine T_seq ?_
  refine T_region ?_
  refine TL_box 11 rfl rfl rfl rfl rfl rfl rfl ?_
  refine TL_pure rfl rfl rfl rfl (op_assign rfl) ?_
  refine TL_nil ?_
  refine T_seq ?_
  refine T_region ?_
  refine TL_pure rfl rfl rfl rfl (op_fieldAddr fa33_1 rfl rfl) ?_
  refine TL_pure rfl rfl rfl rfl (op_load_one ag31 rfl rfl) ?_
  obtain ⟨r5, hr5, hm⟩ := bindS hm
  refine TL_callF (c_impl_IsBody p0.Body r5 hr5) Try.call96 rfl rfl rfl rfl rfl ?_
  refine TL_pure rfl rfl rfl rfl (op_move rfl) ?_
  refine TL_split 6 rfl rfl rfl (fun hq => ?_) (fun hq => ?_)
  · replace hm := condT hq hm
    refine TL_want rfl rfl ?_
    refine TL_pure rfl rfl rfl rfl (op_fieldAddr fa33_0 rfl rfl) ?_
    refine TL_want rfl rfl ?_
    refine TL_pure rfl rfl rfl rfl (op_load_one ag30 rfl rfl) ?_
    refine TL_want rfl rfl ?_
    obtain ⟨r9, hr9, hm⟩ := bindS hm
    refine TL_callF (c_impl_areOver p0.Pre (6 : Int) r9 hr9) Try.call82 rfl rfl rfl rfl rfl ?_
    refine TL_pure rfl rfl rfl rfl (op_pick_true rfl rfl) ?_
    refine TL_pure rfl rfl rfl rfl (op_move rfl) ?_
    refine TL_split 11 rfl rfl rfl (fun hq => ?_) (fun hq => ?_)
    · replace hm := condT hq hm
      refine TL_want rfl rfl ?_
      refine TL_pure rfl rfl rfl rfl (op_fieldAddr fa33_2 rfl rfl) ?_
      refine TL_want rfl rfl ?_
      refine TL_pure rfl rfl rfl rfl (op_load_one ag30 rfl rfl) ?_
      refine TL_want rfl rfl ?_
      obtain ⟨r14, hr14, hm⟩ := bindS hm
      refine TL_callF (c_impl_areOver p0.Post (6 : Int) r14 hr14) Try.call82 rfl rfl rfl rfl rfl ?_
      refine TL_pure rfl rfl rfl rfl (op_pick_true rfl rfl) ?_
      refine TL_pure rfl rfl rfl rfl (op_assign rfl) ?_
      refine TL_nil ?_
      refine T_keepH [2] [] rfl rfl rfl rfl (by rw [hF]; rfl) ?_
      refine T_ret ?_
      obtain rfl := someI hm
      refine ⟨[_], [], ⟨rfl, trivial⟩, ?_, rfl, rfl, rfl, rfl⟩
      rfl
    · replace hm := condF hq hm
      refine TL_pass rfl rfl rfl rfl rfl rfl rfl ?_
      refine TL_pass rfl rfl rfl rfl rfl rfl rfl ?_
      refine TL_pass rfl rfl rfl rfl rfl rfl rfl ?_
      refine TL_pure rfl rfl rfl rfl (op_pick_false rfl rfl) ?_
      refine TL_pure rfl rfl rfl rfl (op_assign rfl) ?_
      refine TL_nil ?_
      refine T_keepH [2] [] rfl rfl rfl rfl (by rw [hF]; rfl) ?_
      refine T_ret ?_
      obtain rfl := someI hm
      refine ⟨[_], [], ⟨rfl, trivial⟩, ?_, rfl, rfl, rfl, rfl⟩
      rfl
  · replace hm := condF hq hm
    refine TL_pass rfl rfl rfl rfl rfl rfl rfl ?_
    refine TL_pass rfl rfl rfl rfl rfl rfl rfl ?_
    refine TL_pass rfl rfl rfl rfl rfl rfl rfl ?_
    refine TL_pure rfl rfl rfl rfl (op_pick_false rfl rfl) ?_
    refine TL_pure rfl rfl rfl rfl (op_move rfl) ?_
    refine TL_pass rfl rfl rfl rfl rfl rfl rfl ?_
    refine TL_pass rfl rfl rfl rfl rfl rfl rfl ?_
    refine TL_pass rfl rfl rfl rfl rfl rfl rfl ?_
    refine TL_pure rfl rfl rfl rfl (op_pick_false rfl rfl) ?_
    refine TL_pure rfl rfl rfl rfl (op_assign rfl) ?_
    refine TL_nil ?_
    refine T_keepH [2] [] rfl rfl rfl rfl (by rw [hF]; rfl) ?_
    refine T_ret ?_
    obtain rfl := someI hm
    refine ⟨[_], [], ⟨rfl, trivial⟩, ?_, rfl, rfl, rfl, rfl⟩
    rfl
theorem c_impl_size (p0 : Int) (out : Int) (hm : m_impl_size p0 = some out) : ACall Try.prog 62 [.int .i64 p0] [] (.int .i64 out) [] := by
  refine ACall.intro Try.func62 rfl Try.ntmps62 rfl (fun F hF => ?_)
  unfold m_impl_size at hm
  refine T_seq ?_
  refine T_region ?_
  refine TL_pure rfl rfl rfl rfl (op_assign rfl) ?_
  refine TL_nil ?_
  refine T_seq ?_
  refine T_region ?_
  refine TL_pure rfl rfl rfl rfl (op_move rfl) ?_
  refine TL_pure rfl rfl rfl rfl (op_assign rfl) ?_
  refine TL_nil ?_
  refine T_keepH [2] [] rfl rfl rfl rfl (by rw [hF]; rfl) ?_
  refine T_ret ?_
  obtain rfl := someI hm
  refine ⟨[_], [], ⟨rfl, trivial⟩, ?_, rfl, rfl, rfl, rfl⟩
  rfl
theorem c_impl_compiling_here (p0 : compiling) (out : Int) (hm : m_impl_compiling_here p0 = some out) : ACall Try.prog 60 [.cp [.sl 2 (List.map a_Instr p0.code), .sl 2 (List.map a_Point p0.points), .sl 1 (List.map a_i64 p0.from_), .sl 1 (List.map a_i64 p0.to)]] [] (.int .i64 out) [] := by
  refine ACall.intro Try.func60 rfl Try.ntmps60 rfl (fun F hF => ?_)
  unfold m_impl_compiling_here at hm
  refine T_seq ?_
  refine T_region ?_
  refine TL_pure rfl rfl rfl rfl (op_assign rfl) ?_
  refine TL_nil ?_
  refine T_seq ?_
  refine T_region ?_
  refine TL_pure rfl rfl rfl rfl (op_move rfl) ?_
  refine TL_pure rfl rfl rfl rfl (op_nilCheck rfl rfl) ?_
  refine TL_pure rfl rfl rfl rfl (op_fieldAddrC (n := 1) fa114_0 rfl rfl rfl) ?_
  refine TL_pure rfl rfl rfl rfl (op_load_one ag60 rfl rfl) ?_
  refine TL_pure rfl rfl rfl rfl (op_lenT Try.underlying60 rfl (List.length_map _)) ?_
  refine TL_fact (fun _ _ _ hr => RelP.slLen (i := 6) rfl hr) (fun hlen7 => ?_)
  rw [List.length_map] at hlen7
  obtain ⟨r8, hr8, hm⟩ := bindS hm
  refine TL_callF (c_impl_size (p0.code.length : Int) r8 hr8) Try.call62 rfl rfl rfl rfl rfl ?_
  refine TL_pure rfl rfl rfl rfl (op_assign rfl) ?_
  refine TL_nil ?_
  refine T_keepH [2] [] rfl rfl rfl rfl (by rw [hF]; rfl) ?_
  refine T_ret ?_
  obtain rfl := someI hm
  refine ⟨[_], [], ⟨rfl, trivial⟩, ?_, rfl, rfl, rfl, rfl⟩
  rfl
theorem c_impl_compileTerm (p0 : Term) (out : List Instr) (hm : m_impl_compileTerm p0 = some out) : ACall Try.prog 122 [.agg [.int .i64 p0.Const, .sl 1 (List.map a_i64 p0.Coeffs)]] [] (.ow 1000) [(1000, .arr ⟨false, true⟩ 2 172 (List.map a_Instr out))] := by
  refine ACall.intro Try.func122 rfl Try.ntmps122 rfl (fun F hF => ?_)
  unfold m_impl_compileTerm at hm
  refine T_seq ?_
  refine T_region ?_
  refine TL_box 11 rfl rfl rfl rfl rfl rfl rfl ?_
  refine TL_pure rfl rfl rfl rfl (op_assign rfl) ?_
  refine TL_nil ?_
  refine T_seq ?_
  refine T_region ?_
  refine TL_pure rfl rfl rfl rfl (op_fieldAddr fa67_0 rfl rfl) ?_
  refine TL_pure rfl rfl rfl rfl (op_load_one ag2 rfl rfl) ?_
  refine TL_pure rfl rfl rfl rfl (op_buildP pl172 z172 rfl rfl rfl rfl rfl) ?_
  refine TL_buildSlice 12 (es := List.map a_Instr [(Instr.mk (0 : Int) p0.Const)]) el60 z172 rfl rfl rfl rfl rfl rfl rfl rfl rfl ?_
  refine TL_pure rfl rfl rfl rfl (op_assign rfl) ?_
  refine TL_nil ?_
  refine T_seq ?_
  refine T_seq ?_
  refine T_region ?_
  refine TL_pure rfl rfl rfl rfl (op_fieldAddr fa67_1 rfl rfl) ?_
  refine TL_pure rfl rfl rfl rfl (op_load_one ag27 rfl rfl) ?_
  refine TL_pure rfl rfl rfl rfl (op_lenT Try.underlying27 rfl (List.length_map _)) ?_
  refine TL_fact (fun _ _ _ hr => RelP.slLen (i := 11) rfl hr) (fun hlen12 => ?_)
  rw [List.length_map] at hlen12
  refine TL_pure rfl rfl rfl rfl (op_move rfl) ?_
  refine TL_nil ?_
  refine T_block ?_
  refine T_keepH [3, 11, 12, 13] [12] rfl rfl rfl rfl (by rw [hF]; rfl) ?_
  refine T_loop ?_
  obtain ⟨u0, hl0, hm⟩ := bindS hm
  refine TR_forL2 p0.Coeffs (m_impl_compileTerm_L0) (fun (s0 : List Instr) => s0) (fun n0 (s0 : List Instr) => ⟨[(3, .ow 12), (11, .sl 1 (List.map a_i64 p0.Coeffs)), (12, .int .i64 (p0.Coeffs.length : Int)), (13, .int .i64 (n0 : Int))], [(12, .arr ⟨false, false⟩ 2 172 (List.map a_Instr s0))]⟩) (fun u0 => .exit 0) (fun u0 => ⟨[(3, .ow 12)], [(12, .arr ⟨false, false⟩ 2 172 (List.map a_Instr u0))]⟩) (fun u0 => m_impl_compileTerm_A0 u0 = some out) hl0 hm (fun u0 hm => ?_) (fun hx0 s0 hm => ?_) (fun hx0 n0 x0 s0 c0 hxn0 hlt0 hm hc0 => ?_)
  · unfold m_impl_compileTerm_A0 at hm
    refine T_seq ?_
    refine T_region ?_
    refine TL_pure rfl rfl rfl rfl (op_move rfl) ?_
    refine TL_pure rfl rfl rfl rfl (op_assign rfl) ?_
    refine TL_nil ?_
    refine T_keepH [2] [12] rfl rfl rfl rfl (by rw [hF]; rfl) ?_
    refine T_deepen 12 (p' := false) (List.map a_Instr u0) (by rw [hF]; rfl) rfl (ElR.map (f := a_Instr) (g := a_Instr) (fun _ => ⟨⟨rfl, rfl⟩, ⟨⟨rfl, rfl⟩, trivial⟩⟩) u0) rfl rfl rfl ?_
    refine T_ren [(12, 1000)] rfl rfl rfl (by rw [hF]; rfl) ?_
    refine T_ret ?_
    obtain rfl := someI hm
    refine ⟨[_], [1000], ⟨rfl, trivial⟩, ?_, rfl, rfl, rfl, rfl⟩
    rfl
  · refine T_seq ?_
    refine T_region ?_
    refine TL_pure rfl rfl rfl rfl (op_lss rfl rfl) ?_
    refine TL_nil ?_
    refine T_seq ?_
    refine T_if_false rfl (decide_eq_false (by simp)) ?_
    refine T_keepH [3] [12] rfl rfl rfl rfl (by rw [hF]; rfl) ?_
    refine T_exit ?_
    exact hx0 s0 hm
  · unfold m_impl_compileTerm_L0 at hm
    refine T_seq ?_
    refine T_region ?_
    refine TL_pure rfl rfl rfl rfl (op_lss rfl rfl) ?_
    refine TL_nil ?_
    refine T_seq ?_
    refine T_if_true rfl (decide_eq_true (Int.ofNat_lt.2 hlt0)) ?_
    refine T_skip ?_
    refine T_seq ?_
    refine T_block ?_
    refine T_seq ?_
    refine T_region ?_
    refine TL_pure rfl rfl rfl rfl (op_move rfl) ?_
    refine TL_pure rfl rfl rfl rfl (op_index_sl el27 rfl rfl rfl (get_map hxn0) rfl) ?_
    refine TL_pure rfl rfl rfl rfl (op_load_one ag2 rfl rfl) ?_
    refine TL_pure rfl rfl rfl rfl (op_assign rfl) ?_
    refine TL_pure rfl rfl rfl rfl (op_assign rfl) ?_
    refine TL_nil ?_
    refine T_seq ?_
    refine T_seq ?_
    refine T_region ?_
    refine TL_pure rfl rfl rfl rfl (op_move rfl) ?_
    refine TL_pure rfl rfl rfl rfl (op_eql rfl rfl) ?_
    refine TL_nil ?_
    refine T_cond rfl (fun hq => ?_) (fun hq => ?_)
    · replace hm := condT hq hm
      refine T_exit ?_
      refine T_region ?_
      refine TL_pure rfl rfl rfl rfl (op_addN rfl rfl (Nat.lt_of_lt_of_le hlt0 hlen12)) ?_
      refine TL_pure rfl rfl rfl rfl (op_move rfl) ?_
      refine TL_nil ?_
      refine TR_keepH [3, 11, 12, 13] [12] rfl rfl rfl rfl (by rw [hF]; rfl) ?_
      obtain rfl := someI hm
      have hn := CtlOK_next hc0
      exact hn _ rfl
    · replace hm := condF hq hm
      refine T_skip ?_
      refine T_seq ?_
      refine T_region ?_
      refine TL_pure rfl rfl rfl rfl (op_move rfl) ?_
      refine TL_pure rfl rfl rfl rfl (op_move rfl) ?_
      refine TL_pure rfl rfl rfl rfl (op_buildP pl172 z172 rfl rfl rfl rfl rfl) ?_
      refine TL_buildSlice 21 (es := List.map a_Instr [(Instr.mk (1 : Int) (n0 : Int))]) el60 z172 rfl rfl rfl rfl rfl rfl rfl rfl rfl ?_
      obtain ⟨q24, hq24, hm⟩ := bindS hm
      refine TL_appendT (f := a_Instr) (a := s0) (b := [(Instr.mk (1 : Int) (n0 : Int))]) el60 z172 rfl rfl rfl rfl rfl rfl rfl (capI_spec hq24) rfl rfl rfl rfl rfl ?_
      refine TL_pure rfl rfl rfl rfl (op_assign rfl) ?_
      refine TL_nil ?_
      refine T_seq ?_
      refine T_seq ?_
      refine T_region ?_
      refine TL_pure rfl rfl rfl rfl (op_move rfl) ?_
      refine TL_pure rfl rfl rfl rfl (op_neq rfl rfl) ?_
      refine TL_nil ?_
      refine T_cond rfl (fun hq => ?_) (fun hq => ?_)
      · replace hm := condT hq hm
        refine T_region ?_
        refine TL_pure rfl rfl rfl rfl (op_move rfl) ?_
        refine TL_pure rfl rfl rfl rfl (op_move rfl) ?_
        refine TL_pure rfl rfl rfl rfl (op_buildP pl172 z172 rfl rfl rfl rfl rfl) ?_
        refine TL_buildSlice 22 (es := List.map a_Instr [(Instr.mk (4 : Int) x0)]) el60 z172 rfl rfl rfl rfl rfl rfl rfl rfl rfl ?_
        obtain ⟨q31, hq31, hm⟩ := bindS hm
        refine TL_appendT (f := a_Instr) (a := (s0 ++ [(Instr.mk (1 : Int) (n0 : Int))])) (b := [(Instr.mk (4 : Int) x0)]) el60 z172 rfl rfl rfl rfl rfl rfl rfl (capI_spec hq31) rfl rfl rfl rfl rfl ?_
        refine TL_pure rfl rfl rfl rfl (op_assign rfl) ?_
        refine TL_nil ?_
        refine T_region ?_
        refine TL_pure rfl rfl rfl rfl (op_move rfl) ?_
        refine TL_pure rfl rfl rfl rfl (op_buildP pl172 z172 rfl rfl rfl rfl rfl) ?_
        refine TL_buildSlice 23 (es := List.map a_Instr [(Instr.mk (3 : Int) (0 : Int))]) el60 z172 rfl rfl rfl rfl rfl rfl rfl rfl rfl ?_
        obtain ⟨q35, hq35, hm⟩ := bindS hm
        refine TL_appendT (f := a_Instr) (a := ((s0 ++ [(Instr.mk (1 : Int) (n0 : Int))]) ++ [(Instr.mk (4 : Int) x0)])) (b := [(Instr.mk (3 : Int) (0 : Int))]) el60 z172 rfl rfl rfl rfl rfl rfl rfl (capI_spec hq35) rfl rfl rfl rfl rfl ?_
        refine TL_pure rfl rfl rfl rfl (op_assign rfl) ?_
        refine TL_nil ?_
        refine T_region ?_
        refine TL_pure rfl rfl rfl rfl (op_addN rfl rfl (Nat.lt_of_lt_of_le hlt0 hlen12)) ?_
        refine TL_pure rfl rfl rfl rfl (op_move rfl) ?_
        refine TL_nil ?_
        refine TR_keepH [3, 11, 12, 13] [12] rfl rfl rfl rfl (by rw [hF]; rfl) ?_
        obtain rfl := someI hm
        have hn := CtlOK_next hc0
        exact hn _ rfl
      · replace hm := condF hq hm
        refine T_skip ?_
        refine T_region ?_
        refine TL_pure rfl rfl rfl rfl (op_move rfl) ?_
        refine TL_pure rfl rfl rfl rfl (op_buildP pl172 z172 rfl rfl rfl rfl rfl) ?_
        refine TL_buildSlice 24 (es := List.map a_Instr [(Instr.mk (3 : Int) (0 : Int))]) el60 z172 rfl rfl rfl rfl rfl rfl rfl rfl rfl ?_
        obtain ⟨q35, hq35, hm⟩ := bindS hm
        refine TL_appendT (f := a_Instr) (a := (s0 ++ [(Instr.mk (1 : Int) (n0 : Int))])) (b := [(Instr.mk (3 : Int) (0 : Int))]) el60 z172 rfl rfl rfl rfl rfl rfl rfl (capI_spec hq35) rfl rfl rfl rfl rfl ?_
        refine TL_pure rfl rfl rfl rfl (op_assign rfl) ?_
        refine TL_nil ?_
        refine T_region ?_
        refine TL_pure rfl rfl rfl rfl (op_addN rfl rfl (Nat.lt_of_lt_of_le hlt0 hlen12)) ?_
        refine TL_pure rfl rfl rfl rfl (op_move rfl) ?_
        refine TL_nil ?_
        refine TR_keepH [3, 11, 12, 13] [12] rfl rfl rfl rfl (by rw [hF]; rfl) ?_
        obtain rfl := someI hm
        have hn := CtlOK_next hc0
        exact hn _ rfl
theorem c_impl_compiling_term (p0 : compiling) (p1 : Term) (out : compiling) (hm : m_impl_compiling_term p0 p1 = some out) : ACall Try.prog 112 [.ptr 0 0 0, .agg [.int .i64 p1.Const, .sl 1 (List.map a_i64 p1.Coeffs)]] [(0, .box [.ow 1, .ow 2, .ow 3, .ow 4]), (1, .arr ⟨false, true⟩ 2 172 (List.map a_Instr p0.code)), (2, .arr ⟨false, true⟩ 2 71 (List.map a_Point p0.points)), (3, .arr ⟨false, true⟩ 1 2 (List.map a_i64 p0.from_)), (4, .arr ⟨false, true⟩ 1 2 (List.map a_i64 p0.to))] (.tup []) [(0, .box [.ow 1, .ow 2, .ow 3, .ow 4]), (1, .arr ⟨false, true⟩ 2 172 (List.map a_Instr out.code)), (2, .arr ⟨false, true⟩ 2 71 (List.map a_Point out.points)), (3, .arr ⟨false, true⟩ 1 2 (List.map a_i64 out.from_)), (4, .arr ⟨false, true⟩ 1 2 (List.map a_i64 out.to))] := by
  refine ACall.intro Try.func112 rfl Try.ntmps112 rfl (fun F hF => ?_)
  unfold m_impl_compiling_term at hm
  refine T_seq ?_
  refine T_region ?_
  refine TL_box 11 rfl rfl rfl rfl rfl rfl rfl ?_
  refine TL_nil ?_
  refine T_drawZ [7, 10] mix (by kernel_rfl) rfl ?_
  obtain ⟨r10, hr10, hm⟩ := bindS hm
  obtain ⟨q11, hq11, hm⟩ := bindS hm
  refine TZ_pure 0 (by kernel_rfl) rfl rfl rfl rfl rfl (op_move rfl) ?_
  refine TZ_pure 1 (by kernel_rfl) rfl rfl rfl rfl rfl (op_move rfl) ?_
  refine TZ_pure 2 (by kernel_rfl) rfl rfl rfl rfl rfl (op_nilCheck rfl rfl) ?_
  refine TZ_pure 3 (by kernel_rfl) rfl rfl rfl rfl rfl (op_fieldAddr fa114_0 rfl rfl) ?_
  refine TZ_pure 4 (by kernel_rfl) rfl rfl rfl rfl rfl (op_load_one ag60 rfl rfl) ?_
  refine TZ_one 5 (by kernel_rfl) rfl ?_
  refine TL_pure rfl rfl rfl rfl (op_load_agg ag67 sz67 rfl rfl rfl) ?_
  refine TL_nil ?_
  refine TZ_one 6 (by kernel_rfl) rfl ?_
  refine TL_callO [(1000, 13)] (c_impl_compileTerm p1 r10 hr10) Try.call122 rfl rfl rfl rfl rfl rfl rfl rfl rfl rfl rfl rfl rfl ?_
  refine TL_nil ?_
  refine TZ_one 7 (by kernel_rfl) rfl ?_
  refine TL_appendDT (f := a_Instr) (a := p0.code) (b := r10) el60 z172 rfl rfl rfl rfl rfl rfl rfl rfl (by rw [hF]; rfl) (capI_spec hq11) rfl rfl rfl rfl rfl ?_
  refine TL_nil ?_
  refine TZ_pure 8 (by kernel_rfl) rfl rfl rfl rfl rfl (op_nilCheck rfl rfl) ?_
  refine TZ_pure 9 (by kernel_rfl) rfl rfl rfl rfl rfl (op_fieldAddr fa114_0 rfl rfl) ?_
  refine TZ_one 10 (by kernel_rfl) rfl ?_
  refine TL_store_box sz60 rfl rfl rfl rfl rfl rfl rfl rfl rfl ?_
  refine TL_nil ?_
  refine TZ_keepH [] [0, 1, 2, 3, 4] rfl rfl rfl rfl (by rw [hF]; rfl) ?_
  refine TZ_done (by kernel_rfl) ?_
  obtain rfl := someI hm
  refine ⟨[], [0, 1, 2, 3, 4], trivial, ?_, rfl, rfl, rfl, rfl⟩
  rfl
theorem c_impl_compiling_emit (p0 : compiling) (p1 : Int) (p2 : Int) (out : compiling) (hm : m_impl_compiling_emit p0 p1 p2 = some out) : ACall Try.prog 89 [.ptr 0 0 0, .int .i64 p1, .int .i64 p2] [(0, .box [.ow 1, .ow 2, .ow 3, .ow 4]), (1, .arr ⟨false, true⟩ 2 172 (List.map a_Instr p0.code)), (2, .arr ⟨false, true⟩ 2 71 (List.map a_Point p0.points)), (3, .arr ⟨false, true⟩ 1 2 (List.map a_i64 p0.from_)), (4, .arr ⟨false, true⟩ 1 2 (List.map a_i64 p0.to))] (.tup []) [(0, .box [.ow 1, .ow 2, .ow 3, .ow 4]), (1, .arr ⟨false, true⟩ 2 172 (List.map a_Instr out.code)), (2, .arr ⟨false, true⟩ 2 71 (List.map a_Point out.points)), (3, .arr ⟨false, true⟩ 1 2 (List.map a_i64 out.from_)), (4, .arr ⟨false, true⟩ 1 2 (List.map a_i64 out.to))] := by
  refine ACall.intro Try.func89 rfl Try.ntmps89 rfl (fun F hF => ?_)
  unfold m_impl_compiling_emit at hm
  refine T_region ?_
  refine TL_pure rfl rfl rfl rfl (op_move rfl) ?_
  refine TL_pure rfl rfl rfl rfl (op_move rfl) ?_
  refine TL_pure rfl rfl rfl rfl (op_nilCheck rfl rfl) ?_
  refine TL_pure rfl rfl rfl rfl (op_fieldAddr fa114_0 rfl rfl) ?_
  refine TL_pure rfl rfl rfl rfl (op_load_one ag60 rfl rfl) ?_
  refine TL_pure rfl rfl rfl rfl (op_move rfl) ?_
  refine TL_pure rfl rfl rfl rfl (op_move rfl) ?_
  refine TL_pure rfl rfl rfl rfl (op_buildP pl172 z172 rfl rfl rfl rfl rfl) ?_
  refine TL_buildSlice 11 (es := List.map a_Instr [(Instr.mk p1 p2)]) el60 z172 rfl rfl rfl rfl rfl rfl rfl rfl rfl ?_
  refine TL_deepen 11 (p' := false) (List.map a_Instr [(Instr.mk p1 p2)]) (by rw [hF]; rfl) rfl (ElR.map (f := a_Instr) (g := a_Instr) (fun _ => ⟨⟨rfl, rfl⟩, ⟨⟨rfl, rfl⟩, trivial⟩⟩) [(Instr.mk p1 p2)]) rfl rfl rfl ?_
  obtain ⟨q15, hq15, hm⟩ := bindS hm
  refine TL_appendDT (f := a_Instr) (a := p0.code) (b := [(Instr.mk p1 p2)]) el60 z172 rfl rfl rfl rfl rfl rfl rfl rfl (by rw [hF]; rfl) (capI_spec hq15) rfl rfl rfl rfl rfl ?_
  refine TL_pure rfl rfl rfl rfl (op_nilCheck rfl rfl) ?_
  refine TL_pure rfl rfl rfl rfl (op_fieldAddr fa114_0 rfl rfl) ?_
  refine TL_store_box sz60 rfl rfl rfl rfl rfl rfl rfl rfl rfl ?_
  refine TL_keepH [] [0, 1, 2, 3, 4] rfl rfl rfl rfl (by rw [hF]; rfl) ?_
  refine TL_nil ?_
  obtain rfl := someI hm
  refine ⟨[], [0, 1, 2, 3, 4], trivial, ?_, rfl, rfl, rfl, rfl⟩
  rfl
theorem c_impl_copyInts (p0 : List Int) (out : List Int) (hm : m_impl_copyInts p0 = some out) : ACall Try.prog 99 [.sl 1 (List.map a_i64 p0)] [] (.ow 1000) [(1000, .arr ⟨false, true⟩ 1 2 (List.map a_i64 out))] := by
  refine ACall.intro Try.func99 rfl Try.ntmps99 rfl (fun F hF => ?_)
  unfold m_impl_copyInts at hm
  refine T_seq ?_
  refine T_region ?_
  refine TL_pure rfl rfl rfl rfl (op_assign rfl) ?_
  refine TL_nil ?_
  refine T_seq ?_
  refine T_region ?_
  refine TL_buildSlice 11 (es := List.map a_i64 ([] : List Int)) el27 z2 rfl rfl rfl rfl rfl rfl rfl rfl rfl ?_
  refine TL_pure rfl rfl rfl rfl (op_move rfl) ?_
  obtain ⟨q5, hq5, hm⟩ := bindS hm
  refine TL_appendT (f := a_i64) (a := ([] : List Int)) (b := p0) el27 z2 rfl rfl rfl rfl rfl rfl rfl (capI_spec hq5) rfl rfl rfl rfl rfl ?_
  refine TL_pure rfl rfl rfl rfl (op_assign rfl) ?_
  refine TL_nil ?_
  refine T_keepH [2] [11] rfl rfl rfl rfl (by rw [hF]; rfl) ?_
  refine T_deepen 11 (p' := false) (List.map a_i64 (([] : List Int) ++ p0)) (by rw [hF]; rfl) rfl (ElR.map (f := a_i64) (g := a_i64) (fun _ => ⟨⟨rfl, rfl⟩, trivial⟩) (([] : List Int) ++ p0)) rfl rfl rfl ?_
  refine T_ren [(11, 1000)] rfl rfl rfl (by rw [hF]; rfl) ?_
  refine T_ret ?_
  obtain rfl := someI hm
  refine ⟨[_], [1000], ⟨rfl, trivial⟩, ?_, rfl, rfl, rfl, rfl⟩
  rfl
theorem c_impl_Term_own (p0 : Term) (out : Term) (hm : m_impl_Term_own p0 = some out) : ACall Try.prog 79 [.agg [.int .i64 p0.Const, .sl 1 (List.map a_i64 p0.Coeffs)]] [] (.agg [.int .i64 out.Const, .ow 1000]) [(1000, .arr ⟨false, true⟩ 1 2 (List.map a_i64 out.Coeffs))] := by
  refine ACall.intro Try.func79 rfl Try.ntmps79 rfl (fun F hF => ?_)
  unfold m_impl_Term_own at hm
  refine T_seq ?_
  refine T_region ?_
  refine TL_box 11 rfl rfl rfl rfl rfl rfl rfl ?_
  refine TL_alloc 12 z67 rfl rfl rfl rfl rfl rfl rfl ?_
  refine TL_nil ?_
  refine T_seq ?_
  refine T_drawZ [6] mix (by kernel_rfl) rfl ?_
  obtain ⟨r7, hr7, hm⟩ := bindS hm
  refine TZ_pure 0 (by kernel_rfl) rfl rfl rfl rfl rfl (op_fieldAddr fa67_0 rfl rfl) ?_
  refine TZ_pure 1 (by kernel_rfl) rfl rfl rfl rfl rfl (op_load_one ag2 rfl rfl) ?_
  refine TZ_pure 2 (by kernel_rfl) rfl rfl rfl rfl rfl (op_fieldAddr fa67_1 rfl rfl) ?_
  refine TZ_pure 3 (by kernel_rfl) rfl rfl rfl rfl rfl (op_load_one ag27 rfl rfl) ?_
  refine TZ_one 4 (by kernel_rfl) rfl ?_
  refine TL_callO [(1000, 14)] (c_impl_copyInts p0.Coeffs r7 hr7) Try.call99 rfl rfl rfl rfl rfl rfl rfl rfl rfl rfl rfl rfl rfl ?_
  refine TL_nil ?_
  refine TZ_pure 5 (by kernel_rfl) rfl rfl rfl rfl rfl (op_buildP pl67 z67 rfl rfl rfl rfl rfl) ?_
  refine TZ_one 6 (by kernel_rfl) rfl ?_
  refine TL_store_box sz67 rfl rfl rfl rfl rfl rfl rfl rfl rfl ?_
  refine TL_nil ?_
  refine TZ_done (by kernel_rfl) ?_
  refine T_keepH [2] [12, 14] rfl rfl rfl rfl (by rw [hF]; rfl) ?_
  refine T_ren [(12, 12), (14, 1000)] rfl rfl rfl (by rw [hF]; rfl) ?_
  refine T_ret ?_
  obtain rfl := someI hm
  refine ⟨[_], [1000], ⟨⟨_, _, rfl, rfl, .inr ⟨ag67, _, _, sz67, rfl, rfl⟩⟩, trivial⟩, ?_, rfl, rfl, rfl, rfl⟩
  rfl
theorem c_impl_ownTerms (p0 : List Term) (out : List Term) (hm : m_impl_ownTerms p0 = some out) : ACall Try.prog 50 [.sl 2 (List.map a_Term p0)] [] (.ow 1000) [(1000, .arr ⟨false, true⟩ 2 67 (List.map a_Term out))] := by
  refine ACall.intro Try.func50 rfl Try.ntmps50 rfl (fun F hF => ?_)
  unfold m_impl_ownTerms at hm
  refine T_seq ?_
  refine T_region ?_
  refine TL_pure rfl rfl rfl rfl (op_assign rfl) ?_
  refine TL_nil ?_
  refine T_seq ?_
  refine T_region ?_
  refine TL_pure rfl rfl rfl rfl (op_assign rfl) ?_
  refine TL_nil ?_
  refine T_seq ?_
  refine T_seq ?_
  refine T_region ?_
  refine TL_pure rfl rfl rfl rfl (op_move rfl) ?_
  refine TL_pure rfl rfl rfl rfl (op_lenT Try.underlying30 rfl (List.length_map _)) ?_
  refine TL_fact (fun _ _ _ hr => RelP.slLen (i := 6) rfl hr) (fun hlen7 => ?_)
  rw [List.length_map] at hlen7
  refine TL_pure rfl rfl rfl rfl (op_move rfl) ?_
  refine TL_nil ?_
  refine T_block ?_
  refine T_ownNil 3 21 ⟨false, true⟩ 67 rfl rfl (sz := 2) rfl rfl rfl ?_
  refine T_keepH [3, 6, 7, 8] [21] rfl rfl rfl rfl (by rw [hF]; rfl) ?_
  refine T_ren [(21, 70000)] rfl rfl rfl (by rw [hF]; rfl) ?_
  refine T_loop ?_
  obtain ⟨u0, hl0, hm⟩ := bindS hm
  refine TR_forL2 p0 (m_impl_ownTerms_L0) (fun (s0 : List Term) => s0) (fun n0 (s0 : List Term) => ⟨[(3, .ow 70000), (6, .sl 2 (List.map a_Term p0)), (7, .int .i64 (p0.length : Int)), (8, .int .i64 (n0 : Int))], [(70000, .arr ⟨false, true⟩ 2 67 (List.map a_Term s0))]⟩) (fun u0 => .exit 0) (fun u0 => ⟨[(3, .ow 70000)], [(70000, .arr ⟨false, true⟩ 2 67 (List.map a_Term u0))]⟩) (fun u0 => m_impl_ownTerms_A0 u0 = some out) hl0 hm (fun u0 hm => ?_) (fun hx0 s0 hm => ?_) (fun hx0 n0 x0 s0 c0 hxn0 hlt0 hm hc0 => ?_)
  · unfold m_impl_ownTerms_A0 at hm
    refine T_seq ?_
    refine T_region ?_
    refine TL_pure rfl rfl rfl rfl (op_move rfl) ?_
    refine TL_pure rfl rfl rfl rfl (op_assign rfl) ?_
    refine TL_nil ?_
    refine T_keepH [2] [70000] rfl rfl rfl rfl (by rw [hF]; rfl) ?_
    refine T_ren [(70000, 1000)] rfl rfl rfl (by rw [hF]; rfl) ?_
    refine T_ret ?_
    obtain rfl := someI hm
    refine ⟨[_], [1000], ⟨rfl, trivial⟩, ?_, rfl, rfl, rfl, rfl⟩
    rfl
  · refine T_seq ?_
    refine T_region ?_
    refine TL_pure rfl rfl rfl rfl (op_lss rfl rfl) ?_
    refine TL_nil ?_
    refine T_seq ?_
    refine T_if_false rfl (decide_eq_false (by simp)) ?_
    refine T_keepH [3] [70000] rfl rfl rfl rfl (by rw [hF]; rfl) ?_
    refine T_exit ?_
    exact hx0 s0 hm
  · unfold m_impl_ownTerms_L0 at hm
    refine T_seq ?_
    refine T_region ?_
    refine TL_pure rfl rfl rfl rfl (op_lss rfl rfl) ?_
    refine TL_nil ?_
    refine T_seq ?_
    refine T_if_true rfl (decide_eq_true (Int.ofNat_lt.2 hlt0)) ?_
    refine T_skip ?_
    refine T_seq ?_
    refine T_block ?_
    refine T_seq ?_
    refine T_region ?_
    refine TL_pure rfl rfl rfl rfl (op_index_sl el30 rfl rfl rfl (get_map hxn0) rfl) ?_
    refine TL_pure rfl rfl rfl rfl (op_load_agg ag67 sz67 rfl rfl rfl) ?_
    refine TL_alloc 18 z67 rfl rfl rfl rfl rfl rfl rfl ?_
    refine TL_store_box sz67 rfl rfl rfl rfl rfl rfl rfl rfl rfl ?_
    refine TL_nil ?_
    refine T_region ?_
    refine TL_pure rfl rfl rfl rfl (op_move rfl) ?_
    refine TL_pure rfl rfl rfl rfl (op_load_agg ag67 sz67 rfl rfl rfl) ?_
    obtain ⟨r14, hr14, hm⟩ := bindS hm
    refine TL_callO [(1000, 19)] (c_impl_Term_own x0 r14 hr14) Try.call79 rfl rfl rfl rfl rfl rfl rfl rfl rfl rfl rfl rfl rfl ?_
    refine TL_buildSliceD (ids := [19]) (es := List.map a_Term [r14]) 20 el30 z67 rfl rfl rfl rfl rfl rfl (by rw [hF]; intro j hj; simp only [List.mem_cons, List.not_mem_nil, or_false] at hj; rcases hj with rfl <;> rfl) rfl rfl rfl rfl rfl rfl ?_
    obtain ⟨q16, hq16, hm⟩ := bindS hm
    refine TL_appendDT (f := a_Term) (a := s0) (b := [r14]) el30 z67 rfl rfl rfl rfl rfl rfl rfl rfl (by rw [hF]; rfl) (capI_spec hq16) rfl rfl rfl rfl rfl ?_
    refine TL_pure rfl rfl rfl rfl (op_assign rfl) ?_
    refine TL_nil ?_
    refine T_region ?_
    refine TL_pure rfl rfl rfl rfl (op_addN rfl rfl (Nat.lt_of_lt_of_le hlt0 hlen7)) ?_
    refine TL_pure rfl rfl rfl rfl (op_move rfl) ?_
    refine TL_nil ?_
    refine TR_keepH [3, 6, 7, 8] [70000] rfl rfl rfl rfl (by rw [hF]; rfl) ?_
    obtain rfl := someI hm
    have hn := CtlOK_next hc0
    exact hn _ rfl
theorem c_impl_compiling_compile_F (rec_impl_compiling_compile : compiling → Ptree → Option compiling) (hrec_impl_compiling_compile : ∀ (p0 : compiling) (p1 : Ptree) (out : compiling), rec_impl_compiling_compile p0 p1 = some out → ACall Try.prog 88 [.ptr 0 0 0, a_Ptree p1] [(0, .box [.ow 1, .ow 2, .ow 3, .ow 4]), (1, .arr ⟨false, true⟩ 2 172 (List.map a_Instr p0.code)), (2, .arr ⟨false, true⟩ 2 71 (List.map a_Point p0.points)), (3, .arr ⟨false, true⟩ 1 2 (List.map a_i64 p0.from_)), (4, .arr ⟨false, true⟩ 1 2 (List.map a_i64 p0.to))] (.tup []) [(0, .box [.ow 1, .ow 2, .ow 3, .ow 4]), (1, .arr ⟨false, true⟩ 2 172 (List.map a_Instr out.code)), (2, .arr ⟨false, true⟩ 2 71 (List.map a_Point out.points)), (3, .arr ⟨false, true⟩ 1 2 (List.map a_i64 out.from_)), (4, .arr ⟨false, true⟩ 1 2 (List.map a_i64 out.to))]) (p0 : compiling) (p1 : Ptree) (out : compiling) (hm : m_impl_compiling_compile_F rec_impl_compiling_compile p0 p1 = some out) : ACall Try.prog 88 [.ptr 0 0 0, a_Ptree p1] [(0, .box [.ow 1, .ow 2, .ow 3, .ow 4]), (1, .arr ⟨false, true⟩ 2 172 (List.map a_Instr p0.code)), (2, .arr ⟨false, true⟩ 2 71 (List.map a_Point p0.points)), (3, .arr ⟨false, true⟩ 1 2 (List.map a_i64 p0.from_)), (4, .arr ⟨false, true⟩ 1 2 (List.map a_i64 p0.to))] (.tup []) [(0, .box [.ow 1, .ow 2, .ow 3, .ow 4]), (1, .arr ⟨false, true⟩ 2 172 (List.map a_Instr out.code)), (2, .arr ⟨false, true⟩ 2 71 (List.map a_Point out.points)), (3, .arr ⟨false, true⟩ 1 2 (List.map a_i64 out.from_)), (4, .arr ⟨false, true⟩ 1 2 (List.map a_i64 out.to))] := by
  refine ACall.intro Try.func88 rfl Try.ntmps88 rfl (fun F hF => ?_)
  unfold m_impl_compiling_compile_F at hm
  refine T_seq ?_
  refine T_region ?_
  refine TL_pure rfl rfl rfl rfl (op_move rfl) ?_
  obtain ⟨r9, hr9, hm⟩ := bindS hm
  refine TL_callF (c_impl_compiling_here p0 r9 hr9) Try.call60 rfl rfl rfl rfl rfl ?_
  refine TL_pure rfl rfl rfl rfl (op_assign rfl) ?_
  refine TL_nil ?_
  refine T_seq ?_
  refine T_drawZ [10] mix (by kernel_rfl) rfl ?_
  obtain ⟨o14, ho14, hm⟩ := bindS hm
  obtain ⟨x19, hx19, hm⟩ := bindS hm
  refine TZ_pure 0 (by kernel_rfl) rfl rfl rfl rfl rfl (op_move rfl) ?_
  refine TZ_pure 1 (by kernel_rfl) rfl rfl rfl rfl rfl (op_nilCheck rfl rfl) ?_
  refine TZ_pure 2 (by kernel_rfl) rfl rfl rfl rfl rfl (op_fieldAddr fa114_2 rfl rfl) ?_
  refine TZ_pure 3 (by kernel_rfl) rfl rfl rfl rfl rfl (op_load_one ag27 rfl rfl) ?_
  refine TZ_pure 4 (by kernel_rfl) rfl rfl rfl rfl rfl (op_move rfl) ?_
  refine TZ_trAt 14 (x' := .cp [.int .i64 o14.Stmt.Kind, .int .i64 o14.Stmt.Var, .int .i64 o14.Stmt.Event, .int .i64 o14.Stmt.Sum.Const, .sl 1 (List.map a_i64 o14.Stmt.Sum.Coeffs), .int .i64 o14.Stmt.Index.Const, .sl 1 (List.map a_i64 o14.Stmt.Index.Coeffs), .sl 2 (List.map a_Term o14.Stmt.Facts), .int .i64 o14.at_, .sl 1 (List.map a_Ptree o14.kids)]) rfl (TrR_open (un_tree_eq ho14)) rfl ?_
  refine TZ_pure 5 (by kernel_rfl) rfl rfl rfl rfl rfl (op_nilCheck rfl rfl) ?_
  refine TZ_pure 6 (by kernel_rfl) rfl rfl rfl rfl rfl (op_fieldAddrC (n := 1) fa94_1 rfl rfl rfl) ?_
  refine TZ_pure 7 (by kernel_rfl) rfl rfl rfl rfl rfl (op_load_one ag2 rfl rfl) ?_
  refine TZ_pure 8 (by kernel_rfl) rfl rfl rfl rfl rfl (op_move rfl) ?_
  refine TZ_pure 9 (by kernel_rfl) rfl rfl rfl rfl rfl (op_indexO el27 rfl rfl rfl hx19) ?_
  refine TZ_one 10 (by kernel_rfl) rfl ?_
  refine TL_storeFT sz2 rfl rfl ((getI_spec hx19).2) (v' := r9) rfl rfl rfl rfl rfl rfl rfl rfl rfl ?_
  refine TL_nil ?_
  refine TZ_done (by kernel_rfl) ?_
  refine T_join (fun (j1 : (List Instr) × (List Point) × (List Int) × (List Int)) => ⟨[(0, .ptr 0 0 0), (1, a_Ptree p1)], [(0, .box [.ow 1, .ow 2, .ow 3, .ow 4]), (1, .arr ⟨false, true⟩ 2 172 (List.map a_Instr j1.1)), (2, .arr ⟨false, true⟩ 2 71 (List.map a_Point j1.2.1)), (3, .arr ⟨false, true⟩ 1 2 (List.map a_i64 j1.2.2.1)), (4, .arr ⟨false, true⟩ 1 2 (List.map a_i64 j1.2.2.2))]⟩) (fun j1 => m_impl_compiling_compile_F_J1 o14 j1 = some out) (fun j1 hm => ?_) (fun hj1 => ?_)
  · unfold m_impl_compiling_compile_F_J1 at hm
    refine T_drawZ [11] mix (by kernel_rfl) rfl ?_
    obtain ⟨r225, hr225, hm⟩ := bindS hm
    obtain ⟨x226, hx226, hm⟩ := bindS hm
    refine TZ_pure 0 (by kernel_rfl) rfl rfl rfl rfl rfl (op_move rfl) ?_
    refine TZ_pure 1 (by kernel_rfl) rfl rfl rfl rfl rfl (op_nilCheck rfl rfl) ?_
    refine TZ_pure 2 (by kernel_rfl) rfl rfl rfl rfl rfl (op_fieldAddr fa114_3 rfl rfl) ?_
    refine TZ_pure 3 (by kernel_rfl) rfl rfl rfl rfl rfl (op_load_one ag27 rfl rfl) ?_
    refine TZ_pure 4 (by kernel_rfl) rfl rfl rfl rfl rfl (op_move rfl) ?_
    refine TZ_trAt 220 (x' := .cp [.int .i64 o14.Stmt.Kind, .int .i64 o14.Stmt.Var, .int .i64 o14.Stmt.Event, .int .i64 o14.Stmt.Sum.Const, .sl 1 (List.map a_i64 o14.Stmt.Sum.Coeffs), .int .i64 o14.Stmt.Index.Const, .sl 1 (List.map a_i64 o14.Stmt.Index.Coeffs), .sl 2 (List.map a_Term o14.Stmt.Facts), .int .i64 o14.at_, .sl 1 (List.map a_Ptree o14.kids)]) rfl (TrR_open (un_tree_eq ho14)) rfl ?_
    refine TZ_pure 5 (by kernel_rfl) rfl rfl rfl rfl rfl (op_nilCheck rfl rfl) ?_
    refine TZ_pure 6 (by kernel_rfl) rfl rfl rfl rfl rfl (op_fieldAddrC (n := 1) fa94_1 rfl rfl rfl) ?_
    refine TZ_pure 7 (by kernel_rfl) rfl rfl rfl rfl rfl (op_load_one ag2 rfl rfl) ?_
    refine TZ_pure 8 (by kernel_rfl) rfl rfl rfl rfl rfl (op_move rfl) ?_
    refine TZ_one 9 (by kernel_rfl) rfl ?_
    refine TL_callF (c_impl_compiling_here (compiling.mk j1.1 j1.2.1 j1.2.2.1 j1.2.2.2) r225 hr225) Try.call60 rfl rfl rfl rfl rfl ?_
    refine TL_nil ?_
    refine TZ_pure 10 (by kernel_rfl) rfl rfl rfl rfl rfl (op_indexO el27 rfl rfl rfl hx226) ?_
    refine TZ_one 11 (by kernel_rfl) rfl ?_
    refine TL_storeFT sz2 rfl rfl ((getI_spec hx226).2) (v' := r225) rfl rfl rfl rfl rfl rfl rfl rfl rfl ?_
    refine TL_nil ?_
    refine TZ_keepH [] [0, 1, 2, 3, 4] rfl rfl rfl rfl (by rw [hF]; rfl) ?_
    refine TZ_done (by kernel_rfl) ?_
    obtain rfl := someI hm
    refine ⟨[], [0, 1, 2, 3, 4], trivial, ?_, rfl, rfl, rfl, rfl⟩
    rfl
  · refine T_seq ?_
    refine T_region ?_
    refine TL_pure rfl rfl rfl rfl (op_move rfl) ?_
    refine TL_trAt 20 (x' := .cp [.int .i64 o14.Stmt.Kind, .int .i64 o14.Stmt.Var, .int .i64 o14.Stmt.Event, .int .i64 o14.Stmt.Sum.Const, .sl 1 (List.map a_i64 o14.Stmt.Sum.Coeffs), .int .i64 o14.Stmt.Index.Const, .sl 1 (List.map a_i64 o14.Stmt.Index.Coeffs), .sl 2 (List.map a_Term o14.Stmt.Facts), .int .i64 o14.at_, .sl 1 (List.map a_Ptree o14.kids)]) rfl (TrR_open (un_tree_eq ho14)) rfl ?_
    refine TL_pure rfl rfl rfl rfl (op_nilCheck rfl rfl) ?_
    refine TL_pure rfl rfl rfl rfl (op_fieldAddrC (n := 8) fa94_0 rfl rfl rfl) ?_
    refine TL_pure rfl rfl rfl rfl (op_fieldAddrC (n := 1) fa69_0 rfl rfl rfl) ?_
    refine TL_pure rfl rfl rfl rfl (op_load_one ag2 rfl rfl) ?_
    refine TL_nil ?_
    refine T_block ?_
    refine T_seq ?_
    refine T_region ?_
    refine TL_pure rfl rfl rfl rfl (op_eql rfl rfl) ?_
    refine TL_pure rfl rfl rfl rfl (op_assign rfl) ?_
    refine TL_nil ?_
    refine T_cond rfl (fun hq => ?_) (fun hq => ?_)
    · replace hm := condT hq hm
      refine T_seq ?_
      refine T_region ?_
      refine TL_pure rfl rfl rfl rfl (op_move rfl) ?_
      refine TL_pure rfl rfl rfl rfl (op_move rfl) ?_
      refine TL_trAt 28 (x' := .cp [.int .i64 o14.Stmt.Kind, .int .i64 o14.Stmt.Var, .int .i64 o14.Stmt.Event, .int .i64 o14.Stmt.Sum.Const, .sl 1 (List.map a_i64 o14.Stmt.Sum.Coeffs), .int .i64 o14.Stmt.Index.Const, .sl 1 (List.map a_i64 o14.Stmt.Index.Coeffs), .sl 2 (List.map a_Term o14.Stmt.Facts), .int .i64 o14.at_, .sl 1 (List.map a_Ptree o14.kids)]) rfl (TrR_open (un_tree_eq ho14)) rfl ?_
      refine TL_pure rfl rfl rfl rfl (op_nilCheck rfl rfl) ?_
      refine TL_pure rfl rfl rfl rfl (op_fieldAddr fa94_2 rfl rfl) ?_
      refine TL_pure rfl rfl rfl rfl (op_load_one ag88 rfl rfl) ?_
      obtain ⟨x32, hx32, hm⟩ := bindS hm
      refine TL_pure rfl rfl rfl rfl (op_indexT el88 rfl rfl hx32 rfl) ?_
      refine TL_pure rfl rfl rfl rfl (op_load_one ag87 rfl rfl) ?_
      obtain ⟨r34, hr34, hm⟩ := bindS hm
      refine TL_call [(0, 0), (1, 1), (2, 2), (3, 3), (4, 4)] [] [1, 2, 3, 4] (hrec_impl_compiling_compile (compiling.mk p0.code p0.points (p0.from_.set ((o14.at_).toNat) r9) p0.to) x32 r34 hr34) Try.call88 rfl rfl rfl rfl rfl ⟨rfl, rfl, rfl, rfl, rfl, trivial⟩ rfl rfl rfl rfl rfl rfl rfl rfl rfl rfl rfl ?_
      refine TL_nil ?_
      refine T_region ?_
      refine TL_pure rfl rfl rfl rfl (op_move rfl) ?_
      refine TL_pure rfl rfl rfl rfl (op_move rfl) ?_
      refine TL_trAt 36 (x' := .cp [.int .i64 o14.Stmt.Kind, .int .i64 o14.Stmt.Var, .int .i64 o14.Stmt.Event, .int .i64 o14.Stmt.Sum.Const, .sl 1 (List.map a_i64 o14.Stmt.Sum.Coeffs), .int .i64 o14.Stmt.Index.Const, .sl 1 (List.map a_i64 o14.Stmt.Index.Coeffs), .sl 2 (List.map a_Term o14.Stmt.Facts), .int .i64 o14.at_, .sl 1 (List.map a_Ptree o14.kids)]) rfl (TrR_open (un_tree_eq ho14)) rfl ?_
      refine TL_pure rfl rfl rfl rfl (op_nilCheck rfl rfl) ?_
      refine TL_pure rfl rfl rfl rfl (op_fieldAddr fa94_2 rfl rfl) ?_
      refine TL_pure rfl rfl rfl rfl (op_load_one ag88 rfl rfl) ?_
      obtain ⟨x40, hx40, hm⟩ := bindS hm
      refine TL_pure rfl rfl rfl rfl (op_indexT el88 rfl rfl hx40 rfl) ?_
      refine TL_pure rfl rfl rfl rfl (op_load_one ag87 rfl rfl) ?_
      obtain ⟨r42, hr42, hm⟩ := bindS hm
      refine TL_call [(0, 0), (1, 1), (2, 2), (3, 3), (4, 4)] [] [1, 2, 3, 4] (hrec_impl_compiling_compile r34 x40 r42 hr42) Try.call88 rfl rfl rfl rfl rfl ⟨rfl, rfl, rfl, rfl, rfl, trivial⟩ rfl rfl rfl rfl rfl rfl rfl rfl rfl rfl rfl ?_
      refine TL_nil ?_
      refine T_keepH [0, 1] [0, 1, 2, 3, 4] rfl rfl rfl rfl (by rw [hF]; rfl) ?_
      exact hj1 (r42.code, r42.points, r42.from_, r42.to) hm
    · replace hm := condF hq hm
      refine T_seq ?_
      refine T_region ?_
      refine TL_pure rfl rfl rfl rfl (op_eql rfl rfl) ?_
      refine TL_pure rfl rfl rfl rfl (op_assign rfl) ?_
      refine TL_nil ?_
      refine T_cond rfl (fun hq => ?_) (fun hq => ?_)
      · replace hm := condT hq hm
        refine T_seq ?_
        refine T_region ?_
        refine TL_pure rfl rfl rfl rfl (op_move rfl) ?_
        refine TL_pure rfl rfl rfl rfl (op_move rfl) ?_
        refine TL_trAt 46 (x' := .cp [.int .i64 o14.Stmt.Kind, .int .i64 o14.Stmt.Var, .int .i64 o14.Stmt.Event, .int .i64 o14.Stmt.Sum.Const, .sl 1 (List.map a_i64 o14.Stmt.Sum.Coeffs), .int .i64 o14.Stmt.Index.Const, .sl 1 (List.map a_i64 o14.Stmt.Index.Coeffs), .sl 2 (List.map a_Term o14.Stmt.Facts), .int .i64 o14.at_, .sl 1 (List.map a_Ptree o14.kids)]) rfl (TrR_open (un_tree_eq ho14)) rfl ?_
        refine TL_pure rfl rfl rfl rfl (op_nilCheck rfl rfl) ?_
        refine TL_pure rfl rfl rfl rfl (op_fieldAddrC (n := 8) fa94_0 rfl rfl rfl) ?_
        refine TL_pure rfl rfl rfl rfl (op_fieldAddrC (n := 2) fa69_3 rfl rfl rfl) ?_
        refine TL_pure rfl rfl rfl rfl (op_load_agg ag67 sz67 rfl rfl rfl) ?_
        obtain ⟨r51, hr51, hm⟩ := bindS hm
        refine TL_call [(0, 0), (1, 1), (2, 2), (3, 3), (4, 4)] [] [1, 2, 3, 4] (c_impl_compiling_term (compiling.mk p0.code p0.points (p0.from_.set ((o14.at_).toNat) r9) p0.to) o14.Stmt.Sum r51 hr51) Try.call112 rfl rfl rfl rfl rfl ⟨rfl, rfl, rfl, rfl, rfl, trivial⟩ rfl rfl rfl rfl rfl rfl rfl rfl rfl rfl rfl ?_
        refine TL_nil ?_
        refine T_region ?_
        refine TL_pure rfl rfl rfl rfl (op_move rfl) ?_
        refine TL_pure rfl rfl rfl rfl (op_move rfl) ?_
        refine TL_trAt 53 (x' := .cp [.int .i64 o14.Stmt.Kind, .int .i64 o14.Stmt.Var, .int .i64 o14.Stmt.Event, .int .i64 o14.Stmt.Sum.Const, .sl 1 (List.map a_i64 o14.Stmt.Sum.Coeffs), .int .i64 o14.Stmt.Index.Const, .sl 1 (List.map a_i64 o14.Stmt.Index.Coeffs), .sl 2 (List.map a_Term o14.Stmt.Facts), .int .i64 o14.at_, .sl 1 (List.map a_Ptree o14.kids)]) rfl (TrR_open (un_tree_eq ho14)) rfl ?_
        refine TL_pure rfl rfl rfl rfl (op_nilCheck rfl rfl) ?_
        refine TL_pure rfl rfl rfl rfl (op_fieldAddrC (n := 8) fa94_0 rfl rfl rfl) ?_
        refine TL_pure rfl rfl rfl rfl (op_fieldAddrC (n := 1) fa69_1 rfl rfl rfl) ?_
        refine TL_pure rfl rfl rfl rfl (op_load_one ag2 rfl rfl) ?_
        obtain ⟨r58, hr58, hm⟩ := bindS hm
        refine TL_call [(0, 0), (1, 1), (2, 2), (3, 3), (4, 4)] [] [1, 2, 3, 4] (c_impl_compiling_emit r51 (2 : Int) o14.Stmt.Var r58 hr58) Try.call89 rfl rfl rfl rfl rfl ⟨rfl, rfl, rfl, rfl, rfl, trivial⟩ rfl rfl rfl rfl rfl rfl rfl rfl rfl rfl rfl ?_
        refine TL_nil ?_
        refine T_keepH [0, 1] [0, 1, 2, 3, 4] rfl rfl rfl rfl (by rw [hF]; rfl) ?_
        exact hj1 (r58.code, r58.points, r58.from_, r58.to) hm
      · replace hm := condF hq hm
        refine T_seq ?_
        refine T_region ?_
        refine TL_pure rfl rfl rfl rfl (op_eql rfl rfl) ?_
        refine TL_pure rfl rfl rfl rfl (op_assign rfl) ?_
        refine TL_nil ?_
        refine T_cond rfl (fun hq => ?_) (fun hq => ?_)
        · replace hm := condT hq hm
          refine T_seq ?_
          refine T_region ?_
          refine TL_pure rfl rfl rfl rfl (op_move rfl) ?_
          refine TL_pure rfl rfl rfl rfl (op_move rfl) ?_
          refine TL_trAt 62 (x' := .cp [.int .i64 o14.Stmt.Kind, .int .i64 o14.Stmt.Var, .int .i64 o14.Stmt.Event, .int .i64 o14.Stmt.Sum.Const, .sl 1 (List.map a_i64 o14.Stmt.Sum.Coeffs), .int .i64 o14.Stmt.Index.Const, .sl 1 (List.map a_i64 o14.Stmt.Index.Coeffs), .sl 2 (List.map a_Term o14.Stmt.Facts), .int .i64 o14.at_, .sl 1 (List.map a_Ptree o14.kids)]) rfl (TrR_open (un_tree_eq ho14)) rfl ?_
          refine TL_pure rfl rfl rfl rfl (op_nilCheck rfl rfl) ?_
          refine TL_pure rfl rfl rfl rfl (op_fieldAddrC (n := 8) fa94_0 rfl rfl rfl) ?_
          refine TL_pure rfl rfl rfl rfl (op_fieldAddrC (n := 2) fa69_4 rfl rfl rfl) ?_
          refine TL_pure rfl rfl rfl rfl (op_load_agg ag67 sz67 rfl rfl rfl) ?_
          obtain ⟨r67, hr67, hm⟩ := bindS hm
          refine TL_call [(0, 0), (1, 1), (2, 2), (3, 3), (4, 4)] [] [1, 2, 3, 4] (c_impl_compiling_term (compiling.mk p0.code p0.points (p0.from_.set ((o14.at_).toNat) r9) p0.to) o14.Stmt.Index r67 hr67) Try.call112 rfl rfl rfl rfl rfl ⟨rfl, rfl, rfl, rfl, rfl, trivial⟩ rfl rfl rfl rfl rfl rfl rfl rfl rfl rfl rfl ?_
          refine TL_nil ?_
          refine T_seq ?_
          refine T_region ?_
          refine TL_pure rfl rfl rfl rfl (op_move rfl) ?_
          obtain ⟨r69, hr69, hm⟩ := bindS hm
          refine TL_call [(0, 0), (1, 1), (2, 2), (3, 3), (4, 4)] [] [1, 2, 3, 4] (c_impl_compiling_emit r67 (7 : Int) (0 : Int) r69 hr69) Try.call89 rfl rfl rfl rfl rfl ⟨rfl, rfl, rfl, rfl, rfl, trivial⟩ rfl rfl rfl rfl rfl rfl rfl rfl rfl rfl rfl ?_
          refine TL_nil ?_
          refine T_region ?_
          refine TL_pure rfl rfl rfl rfl (op_move rfl) ?_
          refine TL_pure rfl rfl rfl rfl (op_move rfl) ?_
          refine TL_trAt 71 (x' := .cp [.int .i64 o14.Stmt.Kind, .int .i64 o14.Stmt.Var, .int .i64 o14.Stmt.Event, .int .i64 o14.Stmt.Sum.Const, .sl 1 (List.map a_i64 o14.Stmt.Sum.Coeffs), .int .i64 o14.Stmt.Index.Const, .sl 1 (List.map a_i64 o14.Stmt.Index.Coeffs), .sl 2 (List.map a_Term o14.Stmt.Facts), .int .i64 o14.at_, .sl 1 (List.map a_Ptree o14.kids)]) rfl (TrR_open (un_tree_eq ho14)) rfl ?_
          refine TL_pure rfl rfl rfl rfl (op_nilCheck rfl rfl) ?_
          refine TL_pure rfl rfl rfl rfl (op_fieldAddrC (n := 8) fa94_0 rfl rfl rfl) ?_
          refine TL_pure rfl rfl rfl rfl (op_fieldAddrC (n := 1) fa69_1 rfl rfl rfl) ?_
          refine TL_pure rfl rfl rfl rfl (op_load_one ag2 rfl rfl) ?_
          obtain ⟨r76, hr76, hm⟩ := bindS hm
          refine TL_call [(0, 0), (1, 1), (2, 2), (3, 3), (4, 4)] [] [1, 2, 3, 4] (c_impl_compiling_emit r69 (2 : Int) o14.Stmt.Var r76 hr76) Try.call89 rfl rfl rfl rfl rfl ⟨rfl, rfl, rfl, rfl, rfl, trivial⟩ rfl rfl rfl rfl rfl rfl rfl rfl rfl rfl rfl ?_
          refine TL_nil ?_
          refine T_keepH [0, 1] [0, 1, 2, 3, 4] rfl rfl rfl rfl (by rw [hF]; rfl) ?_
          exact hj1 (r76.code, r76.points, r76.from_, r76.to) hm
        · replace hm := condF hq hm
          refine T_seq ?_
          refine T_region ?_
          refine TL_pure rfl rfl rfl rfl (op_eql rfl rfl) ?_
          refine TL_pure rfl rfl rfl rfl (op_assign rfl) ?_
          refine TL_nil ?_
          refine T_cond rfl (fun hq => ?_) (fun hq => ?_)
          · replace hm := condT hq hm
            refine T_seq ?_
            refine T_region ?_
            refine TL_pure rfl rfl rfl rfl (op_move rfl) ?_
            refine TL_pure rfl rfl rfl rfl (op_move rfl) ?_
            refine TL_trAt 80 (x' := .cp [.int .i64 o14.Stmt.Kind, .int .i64 o14.Stmt.Var, .int .i64 o14.Stmt.Event, .int .i64 o14.Stmt.Sum.Const, .sl 1 (List.map a_i64 o14.Stmt.Sum.Coeffs), .int .i64 o14.Stmt.Index.Const, .sl 1 (List.map a_i64 o14.Stmt.Index.Coeffs), .sl 2 (List.map a_Term o14.Stmt.Facts), .int .i64 o14.at_, .sl 1 (List.map a_Ptree o14.kids)]) rfl (TrR_open (un_tree_eq ho14)) rfl ?_
            refine TL_pure rfl rfl rfl rfl (op_nilCheck rfl rfl) ?_
            refine TL_pure rfl rfl rfl rfl (op_fieldAddrC (n := 8) fa94_0 rfl rfl rfl) ?_
            refine TL_pure rfl rfl rfl rfl (op_fieldAddrC (n := 2) fa69_4 rfl rfl rfl) ?_
            refine TL_pure rfl rfl rfl rfl (op_load_agg ag67 sz67 rfl rfl rfl) ?_
            obtain ⟨r85, hr85, hm⟩ := bindS hm
            refine TL_call [(0, 0), (1, 1), (2, 2), (3, 3), (4, 4)] [] [1, 2, 3, 4] (c_impl_compiling_term (compiling.mk p0.code p0.points (p0.from_.set ((o14.at_).toNat) r9) p0.to) o14.Stmt.Index r85 hr85) Try.call112 rfl rfl rfl rfl rfl ⟨rfl, rfl, rfl, rfl, rfl, trivial⟩ rfl rfl rfl rfl rfl rfl rfl rfl rfl rfl rfl ?_
            refine TL_nil ?_
            refine T_seq ?_
            refine T_region ?_
            refine TL_pure rfl rfl rfl rfl (op_move rfl) ?_
            refine TL_pure rfl rfl rfl rfl (op_move rfl) ?_
            refine TL_trAt 87 (x' := .cp [.int .i64 o14.Stmt.Kind, .int .i64 o14.Stmt.Var, .int .i64 o14.Stmt.Event, .int .i64 o14.Stmt.Sum.Const, .sl 1 (List.map a_i64 o14.Stmt.Sum.Coeffs), .int .i64 o14.Stmt.Index.Const, .sl 1 (List.map a_i64 o14.Stmt.Index.Coeffs), .sl 2 (List.map a_Term o14.Stmt.Facts), .int .i64 o14.at_, .sl 1 (List.map a_Ptree o14.kids)]) rfl (TrR_open (un_tree_eq ho14)) rfl ?_
            refine TL_pure rfl rfl rfl rfl (op_nilCheck rfl rfl) ?_
            refine TL_pure rfl rfl rfl rfl (op_fieldAddrC (n := 8) fa94_0 rfl rfl rfl) ?_
            refine TL_pure rfl rfl rfl rfl (op_fieldAddrC (n := 2) fa69_3 rfl rfl rfl) ?_
            refine TL_pure rfl rfl rfl rfl (op_load_agg ag67 sz67 rfl rfl rfl) ?_
            obtain ⟨r92, hr92, hm⟩ := bindS hm
            refine TL_call [(0, 0), (1, 1), (2, 2), (3, 3), (4, 4)] [] [1, 2, 3, 4] (c_impl_compiling_term r85 o14.Stmt.Sum r92 hr92) Try.call112 rfl rfl rfl rfl rfl ⟨rfl, rfl, rfl, rfl, rfl, trivial⟩ rfl rfl rfl rfl rfl rfl rfl rfl rfl rfl rfl ?_
            refine TL_nil ?_
            refine T_region ?_
            refine TL_pure rfl rfl rfl rfl (op_move rfl) ?_
            obtain ⟨r94, hr94, hm⟩ := bindS hm
            refine TL_call [(0, 0), (1, 1), (2, 2), (3, 3), (4, 4)] [] [1, 2, 3, 4] (c_impl_compiling_emit r92 (8 : Int) (0 : Int) r94 hr94) Try.call89 rfl rfl rfl rfl rfl ⟨rfl, rfl, rfl, rfl, rfl, trivial⟩ rfl rfl rfl rfl rfl rfl rfl rfl rfl rfl rfl ?_
            refine TL_nil ?_
            refine T_keepH [0, 1] [0, 1, 2, 3, 4] rfl rfl rfl rfl (by rw [hF]; rfl) ?_
            exact hj1 (r94.code, r94.points, r94.from_, r94.to) hm
          · replace hm := condF hq hm
            refine T_seq ?_
            refine T_region ?_
            refine TL_pure rfl rfl rfl rfl (op_eql rfl rfl) ?_
            refine TL_pure rfl rfl rfl rfl (op_assign rfl) ?_
            refine TL_nil ?_
            refine T_cond rfl (fun hq => ?_) (fun hq => ?_)
            · replace hm := condT hq hm
              refine T_region ?_
              refine TL_pure rfl rfl rfl rfl (op_move rfl) ?_
              refine TL_pure rfl rfl rfl rfl (op_move rfl) ?_
              refine TL_trAt 98 (x' := .cp [.int .i64 o14.Stmt.Kind, .int .i64 o14.Stmt.Var, .int .i64 o14.Stmt.Event, .int .i64 o14.Stmt.Sum.Const, .sl 1 (List.map a_i64 o14.Stmt.Sum.Coeffs), .int .i64 o14.Stmt.Index.Const, .sl 1 (List.map a_i64 o14.Stmt.Index.Coeffs), .sl 2 (List.map a_Term o14.Stmt.Facts), .int .i64 o14.at_, .sl 1 (List.map a_Ptree o14.kids)]) rfl (TrR_open (un_tree_eq ho14)) rfl ?_
              refine TL_pure rfl rfl rfl rfl (op_nilCheck rfl rfl) ?_
              refine TL_pure rfl rfl rfl rfl (op_fieldAddrC (n := 8) fa94_0 rfl rfl rfl) ?_
              refine TL_pure rfl rfl rfl rfl (op_fieldAddrC (n := 1) fa69_2 rfl rfl rfl) ?_
              refine TL_pure rfl rfl rfl rfl (op_load_one ag2 rfl rfl) ?_
              obtain ⟨r103, hr103, hm⟩ := bindS hm
              refine TL_call [(0, 0), (1, 1), (2, 2), (3, 3), (4, 4)] [] [1, 2, 3, 4] (c_impl_compiling_emit (compiling.mk p0.code p0.points (p0.from_.set ((o14.at_).toNat) r9) p0.to) (9 : Int) o14.Stmt.Event r103 hr103) Try.call89 rfl rfl rfl rfl rfl ⟨rfl, rfl, rfl, rfl, rfl, trivial⟩ rfl rfl rfl rfl rfl rfl rfl rfl rfl rfl rfl ?_
              refine TL_nil ?_
              refine T_keepH [0, 1] [0, 1, 2, 3, 4] rfl rfl rfl rfl (by rw [hF]; rfl) ?_
              exact hj1 (r103.code, r103.points, r103.from_, r103.to) hm
            · replace hm := condF hq hm
              refine T_seq ?_
              refine T_region ?_
              refine TL_pure rfl rfl rfl rfl (op_eql rfl rfl) ?_
              refine TL_pure rfl rfl rfl rfl (op_assign rfl) ?_
              refine TL_nil ?_
              refine T_cond rfl (fun hq => ?_) (fun hq => ?_)
              · replace hm := condT hq hm
                refine T_seq ?_
                refine T_region ?_
                refine TL_pure rfl rfl rfl rfl (op_move rfl) ?_
                refine TL_pure rfl rfl rfl rfl (op_move rfl) ?_
                refine TL_trAt 107 (x' := .cp [.int .i64 o14.Stmt.Kind, .int .i64 o14.Stmt.Var, .int .i64 o14.Stmt.Event, .int .i64 o14.Stmt.Sum.Const, .sl 1 (List.map a_i64 o14.Stmt.Sum.Coeffs), .int .i64 o14.Stmt.Index.Const, .sl 1 (List.map a_i64 o14.Stmt.Index.Coeffs), .sl 2 (List.map a_Term o14.Stmt.Facts), .int .i64 o14.at_, .sl 1 (List.map a_Ptree o14.kids)]) rfl (TrR_open (un_tree_eq ho14)) rfl ?_
                refine TL_pure rfl rfl rfl rfl (op_nilCheck rfl rfl) ?_
                refine TL_pure rfl rfl rfl rfl (op_fieldAddrC (n := 8) fa94_0 rfl rfl rfl) ?_
                refine TL_pure rfl rfl rfl rfl (op_fieldAddrC (n := 2) fa69_3 rfl rfl rfl) ?_
                refine TL_pure rfl rfl rfl rfl (op_load_agg ag67 sz67 rfl rfl rfl) ?_
                obtain ⟨r112, hr112, hm⟩ := bindS hm
                refine TL_call [(0, 0), (1, 1), (2, 2), (3, 3), (4, 4)] [] [1, 2, 3, 4] (c_impl_compiling_term (compiling.mk p0.code p0.points (p0.from_.set ((o14.at_).toNat) r9) p0.to) o14.Stmt.Sum r112 hr112) Try.call112 rfl rfl rfl rfl rfl ⟨rfl, rfl, rfl, rfl, rfl, trivial⟩ rfl rfl rfl rfl rfl rfl rfl rfl rfl rfl rfl ?_
                refine TL_nil ?_
                refine T_region ?_
                refine TL_pure rfl rfl rfl rfl (op_move rfl) ?_
                obtain ⟨r114, hr114, hm⟩ := bindS hm
                refine TL_call [(0, 0), (1, 1), (2, 2), (3, 3), (4, 4)] [] [1, 2, 3, 4] (c_impl_compiling_emit r112 (10 : Int) (0 : Int) r114 hr114) Try.call89 rfl rfl rfl rfl rfl ⟨rfl, rfl, rfl, rfl, rfl, trivial⟩ rfl rfl rfl rfl rfl rfl rfl rfl rfl rfl rfl ?_
                refine TL_nil ?_
                refine T_keepH [0, 1] [0, 1, 2, 3, 4] rfl rfl rfl rfl (by rw [hF]; rfl) ?_
                exact hj1 (r114.code, r114.points, r114.from_, r114.to) hm
              · replace hm := condF hq hm
                refine T_seq ?_
                refine T_region ?_
                refine TL_pure rfl rfl rfl rfl (op_eql rfl rfl) ?_
                refine TL_pure rfl rfl rfl rfl (op_assign rfl) ?_
                refine TL_nil ?_
                refine T_cond rfl (fun hq => ?_) (fun hq => ?_)
                · replace hm := condT hq hm
                  refine T_seq ?_
                  refine T_region ?_
                  refine TL_pure rfl rfl rfl rfl (op_move rfl) ?_
                  refine TL_pure rfl rfl rfl rfl (op_move rfl) ?_
                  refine TL_trAt 118 (x' := .cp [.int .i64 o14.Stmt.Kind, .int .i64 o14.Stmt.Var, .int .i64 o14.Stmt.Event, .int .i64 o14.Stmt.Sum.Const, .sl 1 (List.map a_i64 o14.Stmt.Sum.Coeffs), .int .i64 o14.Stmt.Index.Const, .sl 1 (List.map a_i64 o14.Stmt.Index.Coeffs), .sl 2 (List.map a_Term o14.Stmt.Facts), .int .i64 o14.at_, .sl 1 (List.map a_Ptree o14.kids)]) rfl (TrR_open (un_tree_eq ho14)) rfl ?_
                  refine TL_pure rfl rfl rfl rfl (op_nilCheck rfl rfl) ?_
                  refine TL_pure rfl rfl rfl rfl (op_fieldAddrC (n := 8) fa94_0 rfl rfl rfl) ?_
                  refine TL_pure rfl rfl rfl rfl (op_fieldAddrC (n := 2) fa69_3 rfl rfl rfl) ?_
                  refine TL_pure rfl rfl rfl rfl (op_load_agg ag67 sz67 rfl rfl rfl) ?_
                  obtain ⟨r123, hr123, hm⟩ := bindS hm
                  refine TL_call [(0, 0), (1, 1), (2, 2), (3, 3), (4, 4)] [] [1, 2, 3, 4] (c_impl_compiling_term (compiling.mk p0.code p0.points (p0.from_.set ((o14.at_).toNat) r9) p0.to) o14.Stmt.Sum r123 hr123) Try.call112 rfl rfl rfl rfl rfl ⟨rfl, rfl, rfl, rfl, rfl, trivial⟩ rfl rfl rfl rfl rfl rfl rfl rfl rfl rfl rfl ?_
                  refine TL_nil ?_
                  refine T_seq ?_
                  refine T_region ?_
                  refine TL_pure rfl rfl rfl rfl (op_move rfl) ?_
                  obtain ⟨r125, hr125, hm⟩ := bindS hm
                  refine TL_callF (c_impl_compiling_here r123 r125 hr125) Try.call60 rfl rfl rfl rfl rfl ?_
                  refine TL_pure rfl rfl rfl rfl (op_assign rfl) ?_
                  refine TL_nil ?_
                  refine T_seq ?_
                  refine T_region ?_
                  refine TL_pure rfl rfl rfl rfl (op_move rfl) ?_
                  obtain ⟨r127, hr127, hm⟩ := bindS hm
                  refine TL_call [(0, 0), (1, 1), (2, 2), (3, 3), (4, 4)] [] [1, 2, 3, 4] (c_impl_compiling_emit r123 (6 : Int) (0 : Int) r127 hr127) Try.call89 rfl rfl rfl rfl rfl ⟨rfl, rfl, rfl, rfl, rfl, trivial⟩ rfl rfl rfl rfl rfl rfl rfl rfl rfl rfl rfl ?_
                  refine TL_nil ?_
                  refine T_seq ?_
                  refine T_region ?_
                  refine TL_pure rfl rfl rfl rfl (op_move rfl) ?_
                  refine TL_pure rfl rfl rfl rfl (op_move rfl) ?_
                  refine TL_trAt 129 (x' := .cp [.int .i64 o14.Stmt.Kind, .int .i64 o14.Stmt.Var, .int .i64 o14.Stmt.Event, .int .i64 o14.Stmt.Sum.Const, .sl 1 (List.map a_i64 o14.Stmt.Sum.Coeffs), .int .i64 o14.Stmt.Index.Const, .sl 1 (List.map a_i64 o14.Stmt.Index.Coeffs), .sl 2 (List.map a_Term o14.Stmt.Facts), .int .i64 o14.at_, .sl 1 (List.map a_Ptree o14.kids)]) rfl (TrR_open (un_tree_eq ho14)) rfl ?_
                  refine TL_pure rfl rfl rfl rfl (op_nilCheck rfl rfl) ?_
                  refine TL_pure rfl rfl rfl rfl (op_fieldAddr fa94_2 rfl rfl) ?_
                  refine TL_pure rfl rfl rfl rfl (op_load_one ag88 rfl rfl) ?_
                  obtain ⟨x133, hx133, hm⟩ := bindS hm
                  refine TL_pure rfl rfl rfl rfl (op_indexT el88 rfl rfl hx133 rfl) ?_
                  refine TL_pure rfl rfl rfl rfl (op_load_one ag87 rfl rfl) ?_
                  obtain ⟨r135, hr135, hm⟩ := bindS hm
                  refine TL_call [(0, 0), (1, 1), (2, 2), (3, 3), (4, 4)] [] [1, 2, 3, 4] (hrec_impl_compiling_compile r127 x133 r135 hr135) Try.call88 rfl rfl rfl rfl rfl ⟨rfl, rfl, rfl, rfl, rfl, trivial⟩ rfl rfl rfl rfl rfl rfl rfl rfl rfl rfl rfl ?_
                  refine TL_nil ?_
                  refine T_seq ?_
                  refine T_region ?_
                  refine TL_pure rfl rfl rfl rfl (op_move rfl) ?_
                  obtain ⟨r137, hr137, hm⟩ := bindS hm
                  refine TL_callF (c_impl_compiling_here r135 r137 hr137) Try.call60 rfl rfl rfl rfl rfl ?_
                  refine TL_pure rfl rfl rfl rfl (op_assign rfl) ?_
                  refine TL_nil ?_
                  refine T_seq ?_
                  refine T_region ?_
                  refine TL_pure rfl rfl rfl rfl (op_move rfl) ?_
                  obtain ⟨r139, hr139, hm⟩ := bindS hm
                  refine TL_call [(0, 0), (1, 1), (2, 2), (3, 3), (4, 4)] [] [1, 2, 3, 4] (c_impl_compiling_emit r135 (5 : Int) (0 : Int) r139 hr139) Try.call89 rfl rfl rfl rfl rfl ⟨rfl, rfl, rfl, rfl, rfl, trivial⟩ rfl rfl rfl rfl rfl rfl rfl rfl rfl rfl rfl ?_
                  refine TL_nil ?_
                  refine T_seq ?_
                  refine T_drawZ [9] mix (by kernel_rfl) rfl ?_
                  obtain ⟨r146, hr146, hm⟩ := bindS hm
                  obtain ⟨x147, hx147, hm⟩ := bindS hm
                  refine TZ_pure 0 (by kernel_rfl) rfl rfl rfl rfl rfl (op_move rfl) ?_
                  refine TZ_pure 1 (by kernel_rfl) rfl rfl rfl rfl rfl (op_nilCheck rfl rfl) ?_
                  refine TZ_pure 2 (by kernel_rfl) rfl rfl rfl rfl rfl (op_fieldAddr fa114_0 rfl rfl) ?_
                  refine TZ_pure 3 (by kernel_rfl) rfl rfl rfl rfl rfl (op_load_one ag60 rfl rfl) ?_
                  refine TZ_pure 4 (by kernel_rfl) rfl rfl rfl rfl rfl (op_move rfl) ?_
                  refine TZ_pure 5 (by kernel_rfl) rfl rfl rfl rfl rfl (op_move rfl) ?_
                  refine TZ_one 6 (by kernel_rfl) rfl ?_
                  refine TL_callF (c_impl_compiling_here r139 r146 hr146) Try.call60 rfl rfl rfl rfl rfl ?_
                  refine TL_nil ?_
                  refine TZ_pure 7 (by kernel_rfl) rfl rfl rfl rfl rfl (op_indexO el60 rfl rfl rfl hx147) ?_
                  refine TZ_pure 8 (by kernel_rfl) rfl rfl rfl rfl rfl (op_fieldAddr fa172_1 rfl rfl) ?_
                  refine TZ_one 9 (by kernel_rfl) rfl ?_
                  refine TL_storeFT sz2 rfl rfl ((getI_spec hx147).2) (v' := (Instr.mk x147.Op r146)) rfl rfl rfl rfl rfl rfl rfl rfl rfl ?_
                  refine TL_nil ?_
                  refine TZ_done (by kernel_rfl) ?_
                  refine T_seq ?_
                  refine T_region ?_
                  refine TL_pure rfl rfl rfl rfl (op_move rfl) ?_
                  refine TL_pure rfl rfl rfl rfl (op_move rfl) ?_
                  refine TL_trAt 150 (x' := .cp [.int .i64 o14.Stmt.Kind, .int .i64 o14.Stmt.Var, .int .i64 o14.Stmt.Event, .int .i64 o14.Stmt.Sum.Const, .sl 1 (List.map a_i64 o14.Stmt.Sum.Coeffs), .int .i64 o14.Stmt.Index.Const, .sl 1 (List.map a_i64 o14.Stmt.Index.Coeffs), .sl 2 (List.map a_Term o14.Stmt.Facts), .int .i64 o14.at_, .sl 1 (List.map a_Ptree o14.kids)]) rfl (TrR_open (un_tree_eq ho14)) rfl ?_
                  refine TL_pure rfl rfl rfl rfl (op_nilCheck rfl rfl) ?_
                  refine TL_pure rfl rfl rfl rfl (op_fieldAddr fa94_2 rfl rfl) ?_
                  refine TL_pure rfl rfl rfl rfl (op_load_one ag88 rfl rfl) ?_
                  obtain ⟨x154, hx154, hm⟩ := bindS hm
                  refine TL_pure rfl rfl rfl rfl (op_indexT el88 rfl rfl hx154 rfl) ?_
                  refine TL_pure rfl rfl rfl rfl (op_load_one ag87 rfl rfl) ?_
                  obtain ⟨r156, hr156, hm⟩ := bindS hm
                  refine TL_call [(0, 0), (1, 1), (2, 2), (3, 3), (4, 4)] [] [1, 2, 3, 4] (hrec_impl_compiling_compile (compiling.mk (r139.code.set ((r125).toNat) (Instr.mk x147.Op r146)) r139.points r139.from_ r139.to) x154 r156 hr156) Try.call88 rfl rfl rfl rfl rfl ⟨rfl, rfl, rfl, rfl, rfl, trivial⟩ rfl rfl rfl rfl rfl rfl rfl rfl rfl rfl rfl ?_
                  refine TL_nil ?_
                  refine T_drawZ [9] mix (by kernel_rfl) rfl ?_
                  obtain ⟨r163, hr163, hm⟩ := bindS hm
                  obtain ⟨x164, hx164, hm⟩ := bindS hm
                  refine TZ_pure 0 (by kernel_rfl) rfl rfl rfl rfl rfl (op_move rfl) ?_
                  refine TZ_pure 1 (by kernel_rfl) rfl rfl rfl rfl rfl (op_nilCheck rfl rfl) ?_
                  refine TZ_pure 2 (by kernel_rfl) rfl rfl rfl rfl rfl (op_fieldAddr fa114_0 rfl rfl) ?_
                  refine TZ_pure 3 (by kernel_rfl) rfl rfl rfl rfl rfl (op_load_one ag60 rfl rfl) ?_
                  refine TZ_pure 4 (by kernel_rfl) rfl rfl rfl rfl rfl (op_move rfl) ?_
                  refine TZ_pure 5 (by kernel_rfl) rfl rfl rfl rfl rfl (op_move rfl) ?_
                  refine TZ_one 6 (by kernel_rfl) rfl ?_
                  refine TL_callF (c_impl_compiling_here r156 r163 hr163) Try.call60 rfl rfl rfl rfl rfl ?_
                  refine TL_nil ?_
                  refine TZ_pure 7 (by kernel_rfl) rfl rfl rfl rfl rfl (op_indexO el60 rfl rfl rfl hx164) ?_
                  refine TZ_pure 8 (by kernel_rfl) rfl rfl rfl rfl rfl (op_fieldAddr fa172_1 rfl rfl) ?_
                  refine TZ_one 9 (by kernel_rfl) rfl ?_
                  refine TL_storeFT sz2 rfl rfl ((getI_spec hx164).2) (v' := (Instr.mk x164.Op r163)) rfl rfl rfl rfl rfl rfl rfl rfl rfl ?_
                  refine TL_nil ?_
                  refine TZ_done (by kernel_rfl) ?_
                  refine T_keepH [0, 1] [0, 1, 2, 3, 4] rfl rfl rfl rfl (by rw [hF]; rfl) ?_
                  exact hj1 ((r156.code.set ((r137).toNat) (Instr.mk x164.Op r163)), r156.points, r156.from_, r156.to) hm
                · replace hm := condF hq hm
                  refine T_seq ?_
                  refine T_region ?_
                  refine TL_pure rfl rfl rfl rfl (op_eql rfl rfl) ?_
                  refine TL_pure rfl rfl rfl rfl (op_assign rfl) ?_
                  refine TL_nil ?_
                  refine T_cond rfl (fun hq => ?_) (fun hq => ?_)
                  · replace hm := condT hq hm
                    refine T_join (fun (j0 : List Point) => ⟨[(0, .ptr 0 0 0), (1, a_Ptree p1), (4, .int .i64 r9)], [(0, .box [.ow 1, .ow 2, .ow 3, .ow 4]), (1, .arr ⟨false, true⟩ 2 172 (List.map a_Instr p0.code)), (2, .arr ⟨false, true⟩ 2 71 (List.map a_Point j0)), (3, .arr ⟨false, true⟩ 1 2 (List.map a_i64 (p0.from_.set ((o14.at_).toNat) r9))), (4, .arr ⟨false, true⟩ 1 2 (List.map a_i64 p0.to))]⟩) (fun j0 => m_impl_compiling_compile_F_J0 rec_impl_compiling_compile p0 r9 o14 j0 = some out) (fun j0 hm => ?_) (fun hj0 => ?_)
                    · unfold m_impl_compiling_compile_F_J0 at hm
                      refine T_seq ?_
                      refine T_region ?_
                      refine TL_pure rfl rfl rfl rfl (op_move rfl) ?_
                      refine TL_pure rfl rfl rfl rfl (op_move rfl) ?_
                      refine TL_trAt 186 (x' := .cp [.int .i64 o14.Stmt.Kind, .int .i64 o14.Stmt.Var, .int .i64 o14.Stmt.Event, .int .i64 o14.Stmt.Sum.Const, .sl 1 (List.map a_i64 o14.Stmt.Sum.Coeffs), .int .i64 o14.Stmt.Index.Const, .sl 1 (List.map a_i64 o14.Stmt.Index.Coeffs), .sl 2 (List.map a_Term o14.Stmt.Facts), .int .i64 o14.at_, .sl 1 (List.map a_Ptree o14.kids)]) rfl (TrR_open (un_tree_eq ho14)) rfl ?_
                      refine TL_pure rfl rfl rfl rfl (op_nilCheck rfl rfl) ?_
                      refine TL_pure rfl rfl rfl rfl (op_fieldAddrC (n := 8) fa94_0 rfl rfl rfl) ?_
                      refine TL_pure rfl rfl rfl rfl (op_fieldAddrC (n := 2) fa69_3 rfl rfl rfl) ?_
                      refine TL_pure rfl rfl rfl rfl (op_load_agg ag67 sz67 rfl rfl rfl) ?_
                      obtain ⟨r191, hr191, hm⟩ := bindS hm
                      refine TL_call [(0, 0), (1, 1), (2, 2), (3, 3), (4, 4)] [] [1, 2, 3, 4] (c_impl_compiling_term (compiling.mk p0.code j0 (p0.from_.set ((o14.at_).toNat) r9) p0.to) o14.Stmt.Sum r191 hr191) Try.call112 rfl rfl rfl rfl rfl ⟨rfl, rfl, rfl, rfl, rfl, trivial⟩ rfl rfl rfl rfl rfl rfl rfl rfl rfl rfl rfl ?_
                      refine TL_nil ?_
                      refine T_seq ?_
                      refine T_region ?_
                      refine TL_pure rfl rfl rfl rfl (op_move rfl) ?_
                      obtain ⟨r193, hr193, hm⟩ := bindS hm
                      refine TL_callF (c_impl_compiling_here r191 r193 hr193) Try.call60 rfl rfl rfl rfl rfl ?_
                      refine TL_pure rfl rfl rfl rfl (op_assign rfl) ?_
                      refine TL_nil ?_
                      refine T_seq ?_
                      refine T_region ?_
                      refine TL_pure rfl rfl rfl rfl (op_move rfl) ?_
                      obtain ⟨r195, hr195, hm⟩ := bindS hm
                      refine TL_call [(0, 0), (1, 1), (2, 2), (3, 3), (4, 4)] [] [1, 2, 3, 4] (c_impl_compiling_emit r191 (6 : Int) (0 : Int) r195 hr195) Try.call89 rfl rfl rfl rfl rfl ⟨rfl, rfl, rfl, rfl, rfl, trivial⟩ rfl rfl rfl rfl rfl rfl rfl rfl rfl rfl rfl ?_
                      refine TL_nil ?_
                      refine T_seq ?_
                      refine T_region ?_
                      refine TL_pure rfl rfl rfl rfl (op_move rfl) ?_
                      refine TL_pure rfl rfl rfl rfl (op_move rfl) ?_
                      refine TL_trAt 197 (x' := .cp [.int .i64 o14.Stmt.Kind, .int .i64 o14.Stmt.Var, .int .i64 o14.Stmt.Event, .int .i64 o14.Stmt.Sum.Const, .sl 1 (List.map a_i64 o14.Stmt.Sum.Coeffs), .int .i64 o14.Stmt.Index.Const, .sl 1 (List.map a_i64 o14.Stmt.Index.Coeffs), .sl 2 (List.map a_Term o14.Stmt.Facts), .int .i64 o14.at_, .sl 1 (List.map a_Ptree o14.kids)]) rfl (TrR_open (un_tree_eq ho14)) rfl ?_
                      refine TL_pure rfl rfl rfl rfl (op_nilCheck rfl rfl) ?_
                      refine TL_pure rfl rfl rfl rfl (op_fieldAddr fa94_2 rfl rfl) ?_
                      refine TL_pure rfl rfl rfl rfl (op_load_one ag88 rfl rfl) ?_
                      obtain ⟨x201, hx201, hm⟩ := bindS hm
                      refine TL_pure rfl rfl rfl rfl (op_indexT el88 rfl rfl hx201 rfl) ?_
                      refine TL_pure rfl rfl rfl rfl (op_load_one ag87 rfl rfl) ?_
                      obtain ⟨r203, hr203, hm⟩ := bindS hm
                      refine TL_call [(0, 0), (1, 1), (2, 2), (3, 3), (4, 4)] [] [1, 2, 3, 4] (hrec_impl_compiling_compile r195 x201 r203 hr203) Try.call88 rfl rfl rfl rfl rfl ⟨rfl, rfl, rfl, rfl, rfl, trivial⟩ rfl rfl rfl rfl rfl rfl rfl rfl rfl rfl rfl ?_
                      refine TL_nil ?_
                      refine T_seq ?_
                      refine T_region ?_
                      refine TL_pure rfl rfl rfl rfl (op_move rfl) ?_
                      refine TL_pure rfl rfl rfl rfl (op_move rfl) ?_
                      obtain ⟨r206, hr206, hm⟩ := bindS hm
                      refine TL_call [(0, 0), (1, 1), (2, 2), (3, 3), (4, 4)] [] [1, 2, 3, 4] (c_impl_compiling_emit r203 (5 : Int) r9 r206 hr206) Try.call89 rfl rfl rfl rfl rfl ⟨rfl, rfl, rfl, rfl, rfl, trivial⟩ rfl rfl rfl rfl rfl rfl rfl rfl rfl rfl rfl ?_
                      refine TL_nil ?_
                      refine T_drawZ [9] mix (by kernel_rfl) rfl ?_
                      obtain ⟨r213, hr213, hm⟩ := bindS hm
                      obtain ⟨x214, hx214, hm⟩ := bindS hm
                      refine TZ_pure 0 (by kernel_rfl) rfl rfl rfl rfl rfl (op_move rfl) ?_
                      refine TZ_pure 1 (by kernel_rfl) rfl rfl rfl rfl rfl (op_nilCheck rfl rfl) ?_
                      refine TZ_pure 2 (by kernel_rfl) rfl rfl rfl rfl rfl (op_fieldAddr fa114_0 rfl rfl) ?_
                      refine TZ_pure 3 (by kernel_rfl) rfl rfl rfl rfl rfl (op_load_one ag60 rfl rfl) ?_
                      refine TZ_pure 4 (by kernel_rfl) rfl rfl rfl rfl rfl (op_move rfl) ?_
                      refine TZ_pure 5 (by kernel_rfl) rfl rfl rfl rfl rfl (op_move rfl) ?_
                      refine TZ_one 6 (by kernel_rfl) rfl ?_
                      refine TL_callF (c_impl_compiling_here r206 r213 hr213) Try.call60 rfl rfl rfl rfl rfl ?_
                      refine TL_nil ?_
                      refine TZ_pure 7 (by kernel_rfl) rfl rfl rfl rfl rfl (op_indexO el60 rfl rfl rfl hx214) ?_
                      refine TZ_pure 8 (by kernel_rfl) rfl rfl rfl rfl rfl (op_fieldAddr fa172_1 rfl rfl) ?_
                      refine TZ_one 9 (by kernel_rfl) rfl ?_
                      refine TL_storeFT sz2 rfl rfl ((getI_spec hx214).2) (v' := (Instr.mk x214.Op r213)) rfl rfl rfl rfl rfl rfl rfl rfl rfl ?_
                      refine TL_nil ?_
                      refine TZ_done (by kernel_rfl) ?_
                      refine T_keepH [0, 1] [0, 1, 2, 3, 4] rfl rfl rfl rfl (by rw [hF]; rfl) ?_
                      exact hj1 ((r206.code.set ((r193).toNat) (Instr.mk x214.Op r213)), r206.points, r206.from_, r206.to) hm
                    · refine T_drawZ [13, 14, 17] mix (by kernel_rfl) rfl ?_
                      obtain ⟨r179, hr179, hm⟩ := bindS hm
                      obtain ⟨q182, hq182, hm⟩ := bindS hm
                      refine TZ_pure 0 (by kernel_rfl) rfl rfl rfl rfl rfl (op_move rfl) ?_
                      refine TZ_pure 1 (by kernel_rfl) rfl rfl rfl rfl rfl (op_move rfl) ?_
                      refine TZ_pure 2 (by kernel_rfl) rfl rfl rfl rfl rfl (op_nilCheck rfl rfl) ?_
                      refine TZ_pure 3 (by kernel_rfl) rfl rfl rfl rfl rfl (op_fieldAddr fa114_1 rfl rfl) ?_
                      refine TZ_pure 5 (by kernel_rfl) rfl rfl rfl rfl rfl (op_move rfl) ?_
                      refine TZ_pure 6 (by kernel_rfl) rfl rfl rfl rfl rfl (op_move rfl) ?_
                      refine TZ_trAt 174 (x' := .cp [.int .i64 o14.Stmt.Kind, .int .i64 o14.Stmt.Var, .int .i64 o14.Stmt.Event, .int .i64 o14.Stmt.Sum.Const, .sl 1 (List.map a_i64 o14.Stmt.Sum.Coeffs), .int .i64 o14.Stmt.Index.Const, .sl 1 (List.map a_i64 o14.Stmt.Index.Coeffs), .sl 2 (List.map a_Term o14.Stmt.Facts), .int .i64 o14.at_, .sl 1 (List.map a_Ptree o14.kids)]) rfl (TrR_open (un_tree_eq ho14)) rfl ?_
                      refine TZ_pure 7 (by kernel_rfl) rfl rfl rfl rfl rfl (op_nilCheck rfl rfl) ?_
                      refine TZ_pure 8 (by kernel_rfl) rfl rfl rfl rfl rfl (op_fieldAddrC (n := 8) fa94_0 rfl rfl rfl) ?_
                      refine TZ_pure 9 (by kernel_rfl) rfl rfl rfl rfl rfl (op_fieldAddr fa69_5 rfl rfl) ?_
                      refine TZ_cut 8 [true, true, true, true, true, true, true, true, true, true, false, false, false, false, false, false, false, false] ⟨[(0, .ptr 0 0 0), (1, a_Ptree p1), (4, .int .i64 r9), (8, .ptr 0 0 0), (9, .int .i64 r9), (10, .ptr 0 0 0), (11, .ptr 0 0 0), (12, .ptr 0 0 2), (13, .ow 3), (14, .cp [.int .i64 o14.Stmt.Kind, .int .i64 o14.Stmt.Var, .int .i64 o14.Stmt.Event, .int .i64 o14.Stmt.Sum.Const, .sl 1 (List.map a_i64 o14.Stmt.Sum.Coeffs), .int .i64 o14.Stmt.Index.Const, .sl 1 (List.map a_i64 o14.Stmt.Index.Coeffs), .sl 2 (List.map a_Term o14.Stmt.Facts), .int .i64 o14.at_, .sl 1 (List.map a_Ptree o14.kids)]), (15, .cp [.int .i64 o14.Stmt.Kind, .int .i64 o14.Stmt.Var, .int .i64 o14.Stmt.Event, .int .i64 o14.Stmt.Sum.Const, .sl 1 (List.map a_i64 o14.Stmt.Sum.Coeffs), .int .i64 o14.Stmt.Index.Const, .sl 1 (List.map a_i64 o14.Stmt.Index.Coeffs), .sl 2 (List.map a_Term o14.Stmt.Facts), .int .i64 o14.at_, .sl 1 (List.map a_Ptree o14.kids)]), (16, .cp [.int .i64 o14.at_]), (17, .int .i64 o14.at_), (18, .int .i64 r9), (19, .ptr 3 ((o14.at_).toNat) 0), (20, .cp [.int .i64 o14.Stmt.Kind, .int .i64 o14.Stmt.Var, .int .i64 o14.Stmt.Event, .int .i64 o14.Stmt.Sum.Const, .sl 1 (List.map a_i64 o14.Stmt.Sum.Coeffs), .int .i64 o14.Stmt.Index.Const, .sl 1 (List.map a_i64 o14.Stmt.Index.Coeffs), .sl 2 (List.map a_Term o14.Stmt.Facts), .int .i64 o14.at_, .sl 1 (List.map a_Ptree o14.kids)]), (21, .cp [.int .i64 o14.Stmt.Kind, .int .i64 o14.Stmt.Var, .int .i64 o14.Stmt.Event, .int .i64 o14.Stmt.Sum.Const, .sl 1 (List.map a_i64 o14.Stmt.Sum.Coeffs), .int .i64 o14.Stmt.Index.Const, .sl 1 (List.map a_i64 o14.Stmt.Index.Coeffs), .sl 2 (List.map a_Term o14.Stmt.Facts), .int .i64 o14.at_, .sl 1 (List.map a_Ptree o14.kids)]), (22, .cp [.int .i64 o14.Stmt.Kind, .int .i64 o14.Stmt.Var, .int .i64 o14.Stmt.Event, .int .i64 o14.Stmt.Sum.Const, .sl 1 (List.map a_i64 o14.Stmt.Sum.Coeffs), .int .i64 o14.Stmt.Index.Const, .sl 1 (List.map a_i64 o14.Stmt.Index.Coeffs), .sl 2 (List.map a_Term o14.Stmt.Facts)]), (23, .cp [.int .i64 o14.Stmt.Kind]), (24, .int .i64 o14.Stmt.Kind), (25, .bool (decide (o14.Stmt.Kind = (1 : Int)))), (26, .bool (decide (o14.Stmt.Kind = (1 : Int)))), (43, .bool (decide (o14.Stmt.Kind = (2 : Int)))), (44, .bool (decide (o14.Stmt.Kind = (2 : Int)))), (59, .bool (decide (o14.Stmt.Kind = (3 : Int)))), (60, .bool (decide (o14.Stmt.Kind = (3 : Int)))), (77, .bool (decide (o14.Stmt.Kind = (4 : Int)))), (78, .bool (decide (o14.Stmt.Kind = (4 : Int)))), (95, .bool (decide (o14.Stmt.Kind = (5 : Int)))), (96, .bool (decide (o14.Stmt.Kind = (5 : Int)))), (104, .bool (decide (o14.Stmt.Kind = (6 : Int)))), (105, .bool (decide (o14.Stmt.Kind = (6 : Int)))), (115, .bool (decide (o14.Stmt.Kind = (7 : Int)))), (116, .bool (decide (o14.Stmt.Kind = (7 : Int)))), (166, .bool (decide (o14.Stmt.Kind = (8 : Int)))), (167, .bool (decide (o14.Stmt.Kind = (8 : Int)))), (168, .ptr 0 0 0), (169, .ptr 0 0 0), (170, .ptr 0 0 0), (171, .ptr 0 0 1), (172, .ow 2), (173, .int .i64 r9), (174, .cp [.int .i64 o14.Stmt.Kind, .int .i64 o14.Stmt.Var, .int .i64 o14.Stmt.Event, .int .i64 o14.Stmt.Sum.Const, .sl 1 (List.map a_i64 o14.Stmt.Sum.Coeffs), .int .i64 o14.Stmt.Index.Const, .sl 1 (List.map a_i64 o14.Stmt.Index.Coeffs), .sl 2 (List.map a_Term o14.Stmt.Facts), .int .i64 o14.at_, .sl 1 (List.map a_Ptree o14.kids)]), (175, .cp [.int .i64 o14.Stmt.Kind, .int .i64 o14.Stmt.Var, .int .i64 o14.Stmt.Event, .int .i64 o14.Stmt.Sum.Const, .sl 1 (List.map a_i64 o14.Stmt.Sum.Coeffs), .int .i64 o14.Stmt.Index.Const, .sl 1 (List.map a_i64 o14.Stmt.Index.Coeffs), .sl 2 (List.map a_Term o14.Stmt.Facts), .int .i64 o14.at_, .sl 1 (List.map a_Ptree o14.kids)]), (176, .cp [.int .i64 o14.Stmt.Kind, .int .i64 o14.Stmt.Var, .int .i64 o14.Stmt.Event, .int .i64 o14.Stmt.Sum.Const, .sl 1 (List.map a_i64 o14.Stmt.Sum.Coeffs), .int .i64 o14.Stmt.Index.Const, .sl 1 (List.map a_i64 o14.Stmt.Index.Coeffs), .sl 2 (List.map a_Term o14.Stmt.Facts)]), (177, .cp [.sl 2 (List.map a_Term o14.Stmt.Facts)])], [(0, .box [.ow 1, .ow 2, .ow 3, .ow 4]), (1, .arr ⟨false, true⟩ 2 172 (List.map a_Instr p0.code)), (2, .arr ⟨false, true⟩ 2 71 (List.map a_Point p0.points)), (3, .arr ⟨false, true⟩ 1 2 (List.map a_i64 (p0.from_.set ((o14.at_).toNat) r9))), (4, .arr ⟨false, true⟩ 1 2 (List.map a_i64 p0.to))]⟩ ?_ (fun hS4330_0 => ?_)
                      · refine TZ_one 10 (by kernel_rfl) rfl ?_
                        refine TL_pure rfl rfl rfl rfl (op_load_one ag30 rfl rfl) ?_
                        refine TL_nil ?_
                        refine TZ_one 11 (by kernel_rfl) rfl ?_
                        refine TL_callO [(1000, 5291)] (c_impl_ownTerms o14.Stmt.Facts r179 hr179) Try.call50 rfl rfl rfl rfl rfl rfl rfl rfl rfl rfl rfl rfl rfl ?_
                        refine TL_nil ?_
                        refine TZ_pure 12 (by kernel_rfl) rfl rfl rfl rfl rfl (op_buildP pl71 z71 rfl rfl rfl rfl rfl) ?_
                        refine TZ_one 13 (by kernel_rfl) rfl ?_
                        refine TL_buildSliceD (ids := [5291]) (es := List.map a_Point [(Point.mk r9 r179)]) 5451 el61 z71 rfl rfl rfl rfl rfl rfl (by rw [hF]; intro j hj; simp only [List.mem_cons, List.not_mem_nil, or_false] at hj; rcases hj with rfl <;> rfl) rfl rfl rfl rfl rfl rfl ?_
                        refine TL_nil ?_
                        refine TZ_one 14 (by kernel_rfl) rfl ?_
                        refine TL_appendDT (f := a_Point) (a := p0.points) (b := [(Point.mk r9 r179)]) el61 z71 rfl rfl rfl rfl rfl rfl rfl rfl (by rw [hF]; rfl) (capI_spec hq182) rfl rfl rfl rfl rfl ?_
                        refine TL_nil ?_
                        refine TZ_pure 15 (by kernel_rfl) rfl rfl rfl rfl rfl (op_nilCheck rfl rfl) ?_
                        refine TZ_pure 16 (by kernel_rfl) rfl rfl rfl rfl rfl (op_fieldAddr fa114_1 rfl rfl) ?_
                        refine TZ_one 17 (by kernel_rfl) rfl ?_
                        refine TL_store_box sz61 rfl rfl rfl rfl rfl rfl rfl rfl rfl ?_
                        refine TL_nil ?_
                        refine TZ_done (by kernel_rfl) ?_
                        refine T_keepH [0, 1, 4] [0, 1, 2, 3, 4] rfl rfl rfl rfl (by rw [hF]; rfl) ?_
                        exact hj0 (p0.points ++ [(Point.mk r9 r179)]) hm
                      refine TZ_cut 7 [true, true, true, true, true, true, true, true, true, true, true, false, false, false, false, false, false, false] ⟨[(0, .ptr 0 0 0), (1, a_Ptree p1), (4, .int .i64 r9), (8, .ptr 0 0 0), (9, .int .i64 r9), (10, .ptr 0 0 0), (11, .ptr 0 0 0), (12, .ptr 0 0 2), (13, .ow 3), (14, .cp [.int .i64 o14.Stmt.Kind, .int .i64 o14.Stmt.Var, .int .i64 o14.Stmt.Event, .int .i64 o14.Stmt.Sum.Const, .sl 1 (List.map a_i64 o14.Stmt.Sum.Coeffs), .int .i64 o14.Stmt.Index.Const, .sl 1 (List.map a_i64 o14.Stmt.Index.Coeffs), .sl 2 (List.map a_Term o14.Stmt.Facts), .int .i64 o14.at_, .sl 1 (List.map a_Ptree o14.kids)]), (15, .cp [.int .i64 o14.Stmt.Kind, .int .i64 o14.Stmt.Var, .int .i64 o14.Stmt.Event, .int .i64 o14.Stmt.Sum.Const, .sl 1 (List.map a_i64 o14.Stmt.Sum.Coeffs), .int .i64 o14.Stmt.Index.Const, .sl 1 (List.map a_i64 o14.Stmt.Index.Coeffs), .sl 2 (List.map a_Term o14.Stmt.Facts), .int .i64 o14.at_, .sl 1 (List.map a_Ptree o14.kids)]), (16, .cp [.int .i64 o14.at_]), (17, .int .i64 o14.at_), (18, .int .i64 r9), (19, .ptr 3 ((o14.at_).toNat) 0), (20, .cp [.int .i64 o14.Stmt.Kind, .int .i64 o14.Stmt.Var, .int .i64 o14.Stmt.Event, .int .i64 o14.Stmt.Sum.Const, .sl 1 (List.map a_i64 o14.Stmt.Sum.Coeffs), .int .i64 o14.Stmt.Index.Const, .sl 1 (List.map a_i64 o14.Stmt.Index.Coeffs), .sl 2 (List.map a_Term o14.Stmt.Facts), .int .i64 o14.at_, .sl 1 (List.map a_Ptree o14.kids)]), (21, .cp [.int .i64 o14.Stmt.Kind, .int .i64 o14.Stmt.Var, .int .i64 o14.Stmt.Event, .int .i64 o14.Stmt.Sum.Const, .sl 1 (List.map a_i64 o14.Stmt.Sum.Coeffs), .int .i64 o14.Stmt.Index.Const, .sl 1 (List.map a_i64 o14.Stmt.Index.Coeffs), .sl 2 (List.map a_Term o14.Stmt.Facts), .int .i64 o14.at_, .sl 1 (List.map a_Ptree o14.kids)]), (22, .cp [.int .i64 o14.Stmt.Kind, .int .i64 o14.Stmt.Var, .int .i64 o14.Stmt.Event, .int .i64 o14.Stmt.Sum.Const, .sl 1 (List.map a_i64 o14.Stmt.Sum.Coeffs), .int .i64 o14.Stmt.Index.Const, .sl 1 (List.map a_i64 o14.Stmt.Index.Coeffs), .sl 2 (List.map a_Term o14.Stmt.Facts)]), (23, .cp [.int .i64 o14.Stmt.Kind]), (24, .int .i64 o14.Stmt.Kind), (25, .bool (decide (o14.Stmt.Kind = (1 : Int)))), (26, .bool (decide (o14.Stmt.Kind = (1 : Int)))), (43, .bool (decide (o14.Stmt.Kind = (2 : Int)))), (44, .bool (decide (o14.Stmt.Kind = (2 : Int)))), (59, .bool (decide (o14.Stmt.Kind = (3 : Int)))), (60, .bool (decide (o14.Stmt.Kind = (3 : Int)))), (77, .bool (decide (o14.Stmt.Kind = (4 : Int)))), (78, .bool (decide (o14.Stmt.Kind = (4 : Int)))), (95, .bool (decide (o14.Stmt.Kind = (5 : Int)))), (96, .bool (decide (o14.Stmt.Kind = (5 : Int)))), (104, .bool (decide (o14.Stmt.Kind = (6 : Int)))), (105, .bool (decide (o14.Stmt.Kind = (6 : Int)))), (115, .bool (decide (o14.Stmt.Kind = (7 : Int)))), (116, .bool (decide (o14.Stmt.Kind = (7 : Int)))), (166, .bool (decide (o14.Stmt.Kind = (8 : Int)))), (167, .bool (decide (o14.Stmt.Kind = (8 : Int)))), (168, .ptr 0 0 0), (169, .ptr 0 0 0), (170, .ptr 0 0 0), (171, .ptr 0 0 1), (172, .ow 2), (173, .int .i64 r9), (174, .cp [.int .i64 o14.Stmt.Kind, .int .i64 o14.Stmt.Var, .int .i64 o14.Stmt.Event, .int .i64 o14.Stmt.Sum.Const, .sl 1 (List.map a_i64 o14.Stmt.Sum.Coeffs), .int .i64 o14.Stmt.Index.Const, .sl 1 (List.map a_i64 o14.Stmt.Index.Coeffs), .sl 2 (List.map a_Term o14.Stmt.Facts), .int .i64 o14.at_, .sl 1 (List.map a_Ptree o14.kids)]), (175, .cp [.int .i64 o14.Stmt.Kind, .int .i64 o14.Stmt.Var, .int .i64 o14.Stmt.Event, .int .i64 o14.Stmt.Sum.Const, .sl 1 (List.map a_i64 o14.Stmt.Sum.Coeffs), .int .i64 o14.Stmt.Index.Const, .sl 1 (List.map a_i64 o14.Stmt.Index.Coeffs), .sl 2 (List.map a_Term o14.Stmt.Facts), .int .i64 o14.at_, .sl 1 (List.map a_Ptree o14.kids)]), (176, .cp [.int .i64 o14.Stmt.Kind, .int .i64 o14.Stmt.Var, .int .i64 o14.Stmt.Event, .int .i64 o14.Stmt.Sum.Const, .sl 1 (List.map a_i64 o14.Stmt.Sum.Coeffs), .int .i64 o14.Stmt.Index.Const, .sl 1 (List.map a_i64 o14.Stmt.Index.Coeffs), .sl 2 (List.map a_Term o14.Stmt.Facts)]), (177, .cp [.sl 2 (List.map a_Term o14.Stmt.Facts)]), (178, .sl 2 (List.map a_Term o14.Stmt.Facts))], [(0, .box [.ow 1, .ow 2, .ow 3, .ow 4]), (1, .arr ⟨false, true⟩ 2 172 (List.map a_Instr p0.code)), (2, .arr ⟨false, true⟩ 2 71 (List.map a_Point p0.points)), (3, .arr ⟨false, true⟩ 1 2 (List.map a_i64 (p0.from_.set ((o14.at_).toNat) r9))), (4, .arr ⟨false, true⟩ 1 2 (List.map a_i64 p0.to))]⟩ ?_ (fun hS4330_1 => ?_)
                      · refine TZ_one 11 (by kernel_rfl) rfl ?_
                        refine TL_callO [(1000, 5291)] (c_impl_ownTerms o14.Stmt.Facts r179 hr179) Try.call50 rfl rfl rfl rfl rfl rfl rfl rfl rfl rfl rfl rfl rfl ?_
                        refine TL_nil ?_
                        refine TZ_pure 12 (by kernel_rfl) rfl rfl rfl rfl rfl (op_buildP pl71 z71 rfl rfl rfl rfl rfl) ?_
                        refine TZ_one 13 (by kernel_rfl) rfl ?_
                        refine TL_buildSliceD (ids := [5291]) (es := List.map a_Point [(Point.mk r9 r179)]) 5451 el61 z71 rfl rfl rfl rfl rfl rfl (by rw [hF]; intro j hj; simp only [List.mem_cons, List.not_mem_nil, or_false] at hj; rcases hj with rfl <;> rfl) rfl rfl rfl rfl rfl rfl ?_
                        refine TL_nil ?_
                        refine TZ_one 14 (by kernel_rfl) rfl ?_
                        refine TL_appendDT (f := a_Point) (a := p0.points) (b := [(Point.mk r9 r179)]) el61 z71 rfl rfl rfl rfl rfl rfl rfl rfl (by rw [hF]; rfl) (capI_spec hq182) rfl rfl rfl rfl rfl ?_
                        refine TL_nil ?_
                        refine TZ_pure 15 (by kernel_rfl) rfl rfl rfl rfl rfl (op_nilCheck rfl rfl) ?_
                        refine TZ_pure 16 (by kernel_rfl) rfl rfl rfl rfl rfl (op_fieldAddr fa114_1 rfl rfl) ?_
                        refine TZ_one 17 (by kernel_rfl) rfl ?_
                        refine TL_store_box sz61 rfl rfl rfl rfl rfl rfl rfl rfl rfl ?_
                        refine TL_nil ?_
                        refine TZ_done (by kernel_rfl) ?_
                        refine T_keepH [0, 1, 4] [0, 1, 2, 3, 4] rfl rfl rfl rfl (by rw [hF]; rfl) ?_
                        exact hj0 (p0.points ++ [(Point.mk r9 r179)]) hm
                      refine TZ_cut 5 [true, true, true, true, true, true, true, true, true, true, true, true, true, false, false, false, false, false] ⟨[(0, .ptr 0 0 0), (1, a_Ptree p1), (4, .int .i64 r9), (8, .ptr 0 0 0), (9, .int .i64 r9), (10, .ptr 0 0 0), (11, .ptr 0 0 0), (12, .ptr 0 0 2), (13, .ow 3), (14, .cp [.int .i64 o14.Stmt.Kind, .int .i64 o14.Stmt.Var, .int .i64 o14.Stmt.Event, .int .i64 o14.Stmt.Sum.Const, .sl 1 (List.map a_i64 o14.Stmt.Sum.Coeffs), .int .i64 o14.Stmt.Index.Const, .sl 1 (List.map a_i64 o14.Stmt.Index.Coeffs), .sl 2 (List.map a_Term o14.Stmt.Facts), .int .i64 o14.at_, .sl 1 (List.map a_Ptree o14.kids)]), (15, .cp [.int .i64 o14.Stmt.Kind, .int .i64 o14.Stmt.Var, .int .i64 o14.Stmt.Event, .int .i64 o14.Stmt.Sum.Const, .sl 1 (List.map a_i64 o14.Stmt.Sum.Coeffs), .int .i64 o14.Stmt.Index.Const, .sl 1 (List.map a_i64 o14.Stmt.Index.Coeffs), .sl 2 (List.map a_Term o14.Stmt.Facts), .int .i64 o14.at_, .sl 1 (List.map a_Ptree o14.kids)]), (16, .cp [.int .i64 o14.at_]), (17, .int .i64 o14.at_), (18, .int .i64 r9), (19, .ptr 3 ((o14.at_).toNat) 0), (20, .cp [.int .i64 o14.Stmt.Kind, .int .i64 o14.Stmt.Var, .int .i64 o14.Stmt.Event, .int .i64 o14.Stmt.Sum.Const, .sl 1 (List.map a_i64 o14.Stmt.Sum.Coeffs), .int .i64 o14.Stmt.Index.Const, .sl 1 (List.map a_i64 o14.Stmt.Index.Coeffs), .sl 2 (List.map a_Term o14.Stmt.Facts), .int .i64 o14.at_, .sl 1 (List.map a_Ptree o14.kids)]), (21, .cp [.int .i64 o14.Stmt.Kind, .int .i64 o14.Stmt.Var, .int .i64 o14.Stmt.Event, .int .i64 o14.Stmt.Sum.Const, .sl 1 (List.map a_i64 o14.Stmt.Sum.Coeffs), .int .i64 o14.Stmt.Index.Const, .sl 1 (List.map a_i64 o14.Stmt.Index.Coeffs), .sl 2 (List.map a_Term o14.Stmt.Facts), .int .i64 o14.at_, .sl 1 (List.map a_Ptree o14.kids)]), (22, .cp [.int .i64 o14.Stmt.Kind, .int .i64 o14.Stmt.Var, .int .i64 o14.Stmt.Event, .int .i64 o14.Stmt.Sum.Const, .sl 1 (List.map a_i64 o14.Stmt.Sum.Coeffs), .int .i64 o14.Stmt.Index.Const, .sl 1 (List.map a_i64 o14.Stmt.Index.Coeffs), .sl 2 (List.map a_Term o14.Stmt.Facts)]), (23, .cp [.int .i64 o14.Stmt.Kind]), (24, .int .i64 o14.Stmt.Kind), (25, .bool (decide (o14.Stmt.Kind = (1 : Int)))), (26, .bool (decide (o14.Stmt.Kind = (1 : Int)))), (43, .bool (decide (o14.Stmt.Kind = (2 : Int)))), (44, .bool (decide (o14.Stmt.Kind = (2 : Int)))), (59, .bool (decide (o14.Stmt.Kind = (3 : Int)))), (60, .bool (decide (o14.Stmt.Kind = (3 : Int)))), (77, .bool (decide (o14.Stmt.Kind = (4 : Int)))), (78, .bool (decide (o14.Stmt.Kind = (4 : Int)))), (95, .bool (decide (o14.Stmt.Kind = (5 : Int)))), (96, .bool (decide (o14.Stmt.Kind = (5 : Int)))), (104, .bool (decide (o14.Stmt.Kind = (6 : Int)))), (105, .bool (decide (o14.Stmt.Kind = (6 : Int)))), (115, .bool (decide (o14.Stmt.Kind = (7 : Int)))), (116, .bool (decide (o14.Stmt.Kind = (7 : Int)))), (166, .bool (decide (o14.Stmt.Kind = (8 : Int)))), (167, .bool (decide (o14.Stmt.Kind = (8 : Int)))), (168, .ptr 0 0 0), (169, .ptr 0 0 0), (170, .ptr 0 0 0), (171, .ptr 0 0 1), (172, .ow 2), (173, .int .i64 r9), (174, .cp [.int .i64 o14.Stmt.Kind, .int .i64 o14.Stmt.Var, .int .i64 o14.Stmt.Event, .int .i64 o14.Stmt.Sum.Const, .sl 1 (List.map a_i64 o14.Stmt.Sum.Coeffs), .int .i64 o14.Stmt.Index.Const, .sl 1 (List.map a_i64 o14.Stmt.Index.Coeffs), .sl 2 (List.map a_Term o14.Stmt.Facts), .int .i64 o14.at_, .sl 1 (List.map a_Ptree o14.kids)]), (175, .cp [.int .i64 o14.Stmt.Kind, .int .i64 o14.Stmt.Var, .int .i64 o14.Stmt.Event, .int .i64 o14.Stmt.Sum.Const, .sl 1 (List.map a_i64 o14.Stmt.Sum.Coeffs), .int .i64 o14.Stmt.Index.Const, .sl 1 (List.map a_i64 o14.Stmt.Index.Coeffs), .sl 2 (List.map a_Term o14.Stmt.Facts), .int .i64 o14.at_, .sl 1 (List.map a_Ptree o14.kids)]), (176, .cp [.int .i64 o14.Stmt.Kind, .int .i64 o14.Stmt.Var, .int .i64 o14.Stmt.Event, .int .i64 o14.Stmt.Sum.Const, .sl 1 (List.map a_i64 o14.Stmt.Sum.Coeffs), .int .i64 o14.Stmt.Index.Const, .sl 1 (List.map a_i64 o14.Stmt.Index.Coeffs), .sl 2 (List.map a_Term o14.Stmt.Facts)]), (177, .cp [.sl 2 (List.map a_Term o14.Stmt.Facts)]), (178, .sl 2 (List.map a_Term o14.Stmt.Facts)), (179, .ow 5291), (180, .agg [.int .i64 r9, .ow 5291])], [(0, .box [.ow 1, .ow 2, .ow 3, .ow 4]), (1, .arr ⟨false, true⟩ 2 172 (List.map a_Instr p0.code)), (2, .arr ⟨false, true⟩ 2 71 (List.map a_Point p0.points)), (3, .arr ⟨false, true⟩ 1 2 (List.map a_i64 (p0.from_.set ((o14.at_).toNat) r9))), (4, .arr ⟨false, true⟩ 1 2 (List.map a_i64 p0.to)), (5291, .arr ⟨false, true⟩ 2 67 (List.map a_Term r179))]⟩ ?_ (fun hS4330_2 => ?_)
                      · refine TZ_one 13 (by kernel_rfl) rfl ?_
                        refine TL_buildSliceD (ids := [5291]) (es := List.map a_Point [(Point.mk r9 r179)]) 5451 el61 z71 rfl rfl rfl rfl rfl rfl (by rw [hF]; intro j hj; simp only [List.mem_cons, List.not_mem_nil, or_false] at hj; rcases hj with rfl <;> rfl) rfl rfl rfl rfl rfl rfl ?_
                        refine TL_nil ?_
                        refine TZ_one 14 (by kernel_rfl) rfl ?_
                        refine TL_appendDT (f := a_Point) (a := p0.points) (b := [(Point.mk r9 r179)]) el61 z71 rfl rfl rfl rfl rfl rfl rfl rfl (by rw [hF]; rfl) (capI_spec hq182) rfl rfl rfl rfl rfl ?_
                        refine TL_nil ?_
                        refine TZ_pure 15 (by kernel_rfl) rfl rfl rfl rfl rfl (op_nilCheck rfl rfl) ?_
                        refine TZ_pure 16 (by kernel_rfl) rfl rfl rfl rfl rfl (op_fieldAddr fa114_1 rfl rfl) ?_
                        refine TZ_one 17 (by kernel_rfl) rfl ?_
                        refine TL_store_box sz61 rfl rfl rfl rfl rfl rfl rfl rfl rfl ?_
                        refine TL_nil ?_
                        refine TZ_done (by kernel_rfl) ?_
                        refine T_keepH [0, 1, 4] [0, 1, 2, 3, 4] rfl rfl rfl rfl (by rw [hF]; rfl) ?_
                        exact hj0 (p0.points ++ [(Point.mk r9 r179)]) hm
                      refine TZ_cut 5 [true, true, true, true, false, true, true, true, true, true, true, true, true, true, false, false, false, false] ⟨[(0, .ptr 0 0 0), (1, a_Ptree p1), (4, .int .i64 r9), (8, .ptr 0 0 0), (9, .int .i64 r9), (10, .ptr 0 0 0), (11, .ptr 0 0 0), (12, .ptr 0 0 2), (13, .ow 3), (14, .cp [.int .i64 o14.Stmt.Kind, .int .i64 o14.Stmt.Var, .int .i64 o14.Stmt.Event, .int .i64 o14.Stmt.Sum.Const, .sl 1 (List.map a_i64 o14.Stmt.Sum.Coeffs), .int .i64 o14.Stmt.Index.Const, .sl 1 (List.map a_i64 o14.Stmt.Index.Coeffs), .sl 2 (List.map a_Term o14.Stmt.Facts), .int .i64 o14.at_, .sl 1 (List.map a_Ptree o14.kids)]), (15, .cp [.int .i64 o14.Stmt.Kind, .int .i64 o14.Stmt.Var, .int .i64 o14.Stmt.Event, .int .i64 o14.Stmt.Sum.Const, .sl 1 (List.map a_i64 o14.Stmt.Sum.Coeffs), .int .i64 o14.Stmt.Index.Const, .sl 1 (List.map a_i64 o14.Stmt.Index.Coeffs), .sl 2 (List.map a_Term o14.Stmt.Facts), .int .i64 o14.at_, .sl 1 (List.map a_Ptree o14.kids)]), (16, .cp [.int .i64 o14.at_]), (17, .int .i64 o14.at_), (18, .int .i64 r9), (19, .ptr 3 ((o14.at_).toNat) 0), (20, .cp [.int .i64 o14.Stmt.Kind, .int .i64 o14.Stmt.Var, .int .i64 o14.Stmt.Event, .int .i64 o14.Stmt.Sum.Const, .sl 1 (List.map a_i64 o14.Stmt.Sum.Coeffs), .int .i64 o14.Stmt.Index.Const, .sl 1 (List.map a_i64 o14.Stmt.Index.Coeffs), .sl 2 (List.map a_Term o14.Stmt.Facts), .int .i64 o14.at_, .sl 1 (List.map a_Ptree o14.kids)]), (21, .cp [.int .i64 o14.Stmt.Kind, .int .i64 o14.Stmt.Var, .int .i64 o14.Stmt.Event, .int .i64 o14.Stmt.Sum.Const, .sl 1 (List.map a_i64 o14.Stmt.Sum.Coeffs), .int .i64 o14.Stmt.Index.Const, .sl 1 (List.map a_i64 o14.Stmt.Index.Coeffs), .sl 2 (List.map a_Term o14.Stmt.Facts), .int .i64 o14.at_, .sl 1 (List.map a_Ptree o14.kids)]), (22, .cp [.int .i64 o14.Stmt.Kind, .int .i64 o14.Stmt.Var, .int .i64 o14.Stmt.Event, .int .i64 o14.Stmt.Sum.Const, .sl 1 (List.map a_i64 o14.Stmt.Sum.Coeffs), .int .i64 o14.Stmt.Index.Const, .sl 1 (List.map a_i64 o14.Stmt.Index.Coeffs), .sl 2 (List.map a_Term o14.Stmt.Facts)]), (23, .cp [.int .i64 o14.Stmt.Kind]), (24, .int .i64 o14.Stmt.Kind), (25, .bool (decide (o14.Stmt.Kind = (1 : Int)))), (26, .bool (decide (o14.Stmt.Kind = (1 : Int)))), (43, .bool (decide (o14.Stmt.Kind = (2 : Int)))), (44, .bool (decide (o14.Stmt.Kind = (2 : Int)))), (59, .bool (decide (o14.Stmt.Kind = (3 : Int)))), (60, .bool (decide (o14.Stmt.Kind = (3 : Int)))), (77, .bool (decide (o14.Stmt.Kind = (4 : Int)))), (78, .bool (decide (o14.Stmt.Kind = (4 : Int)))), (95, .bool (decide (o14.Stmt.Kind = (5 : Int)))), (96, .bool (decide (o14.Stmt.Kind = (5 : Int)))), (104, .bool (decide (o14.Stmt.Kind = (6 : Int)))), (105, .bool (decide (o14.Stmt.Kind = (6 : Int)))), (115, .bool (decide (o14.Stmt.Kind = (7 : Int)))), (116, .bool (decide (o14.Stmt.Kind = (7 : Int)))), (166, .bool (decide (o14.Stmt.Kind = (8 : Int)))), (167, .bool (decide (o14.Stmt.Kind = (8 : Int)))), (168, .ptr 0 0 0), (169, .ptr 0 0 0), (170, .ptr 0 0 0), (171, .ptr 0 0 1), (173, .int .i64 r9), (174, .cp [.int .i64 o14.Stmt.Kind, .int .i64 o14.Stmt.Var, .int .i64 o14.Stmt.Event, .int .i64 o14.Stmt.Sum.Const, .sl 1 (List.map a_i64 o14.Stmt.Sum.Coeffs), .int .i64 o14.Stmt.Index.Const, .sl 1 (List.map a_i64 o14.Stmt.Index.Coeffs), .sl 2 (List.map a_Term o14.Stmt.Facts), .int .i64 o14.at_, .sl 1 (List.map a_Ptree o14.kids)]), (175, .cp [.int .i64 o14.Stmt.Kind, .int .i64 o14.Stmt.Var, .int .i64 o14.Stmt.Event, .int .i64 o14.Stmt.Sum.Const, .sl 1 (List.map a_i64 o14.Stmt.Sum.Coeffs), .int .i64 o14.Stmt.Index.Const, .sl 1 (List.map a_i64 o14.Stmt.Index.Coeffs), .sl 2 (List.map a_Term o14.Stmt.Facts), .int .i64 o14.at_, .sl 1 (List.map a_Ptree o14.kids)]), (176, .cp [.int .i64 o14.Stmt.Kind, .int .i64 o14.Stmt.Var, .int .i64 o14.Stmt.Event, .int .i64 o14.Stmt.Sum.Const, .sl 1 (List.map a_i64 o14.Stmt.Sum.Coeffs), .int .i64 o14.Stmt.Index.Const, .sl 1 (List.map a_i64 o14.Stmt.Index.Coeffs), .sl 2 (List.map a_Term o14.Stmt.Facts)]), (177, .cp [.sl 2 (List.map a_Term o14.Stmt.Facts)]), (178, .sl 2 (List.map a_Term o14.Stmt.Facts)), (179, .junk), (180, .junk), (181, .ow 5451)], [(0, .box [.ow 1, .ow 2, .ow 3, .ow 4]), (1, .arr ⟨false, true⟩ 2 172 (List.map a_Instr p0.code)), (2, .arr ⟨false, true⟩ 2 71 (List.map a_Point p0.points)), (3, .arr ⟨false, true⟩ 1 2 (List.map a_i64 (p0.from_.set ((o14.at_).toNat) r9))), (4, .arr ⟨false, true⟩ 1 2 (List.map a_i64 p0.to)), (5451, .arr ⟨false, true⟩ 2 71 (List.map a_Point [(Point.mk r9 r179)]))]⟩ ?_ (fun hS4330_3 => ?_)
                      · refine TZ_pure 4 (by kernel_rfl) rfl rfl rfl rfl rfl (op_load_one ag61 rfl rfl) ?_
                        refine TZ_one 14 (by kernel_rfl) rfl ?_
                        refine TL_appendDT (f := a_Point) (a := p0.points) (b := [(Point.mk r9 r179)]) el61 z71 rfl rfl rfl rfl rfl rfl rfl rfl (by rw [hF]; rfl) (capI_spec hq182) rfl rfl rfl rfl rfl ?_
                        refine TL_nil ?_
                        refine TZ_pure 15 (by kernel_rfl) rfl rfl rfl rfl rfl (op_nilCheck rfl rfl) ?_
                        refine TZ_pure 16 (by kernel_rfl) rfl rfl rfl rfl rfl (op_fieldAddr fa114_1 rfl rfl) ?_
                        refine TZ_one 17 (by kernel_rfl) rfl ?_
                        refine TL_store_box sz61 rfl rfl rfl rfl rfl rfl rfl rfl rfl ?_
                        refine TL_nil ?_
                        refine TZ_done (by kernel_rfl) ?_
                        refine T_keepH [0, 1, 4] [0, 1, 2, 3, 4] rfl rfl rfl rfl (by rw [hF]; rfl) ?_
                        exact hj0 (p0.points ++ [(Point.mk r9 r179)]) hm
                      refine TZ_cut 7 [true, true, true, true, false, true, true, true, true, true, true, true, false, false, false, false, false, false] ⟨[(0, .ptr 0 0 0), (1, a_Ptree p1), (4, .int .i64 r9), (8, .ptr 0 0 0), (9, .int .i64 r9), (10, .ptr 0 0 0), (11, .ptr 0 0 0), (12, .ptr 0 0 2), (13, .ow 3), (14, .cp [.int .i64 o14.Stmt.Kind, .int .i64 o14.Stmt.Var, .int .i64 o14.Stmt.Event, .int .i64 o14.Stmt.Sum.Const, .sl 1 (List.map a_i64 o14.Stmt.Sum.Coeffs), .int .i64 o14.Stmt.Index.Const, .sl 1 (List.map a_i64 o14.Stmt.Index.Coeffs), .sl 2 (List.map a_Term o14.Stmt.Facts), .int .i64 o14.at_, .sl 1 (List.map a_Ptree o14.kids)]), (15, .cp [.int .i64 o14.Stmt.Kind, .int .i64 o14.Stmt.Var, .int .i64 o14.Stmt.Event, .int .i64 o14.Stmt.Sum.Const, .sl 1 (List.map a_i64 o14.Stmt.Sum.Coeffs), .int .i64 o14.Stmt.Index.Const, .sl 1 (List.map a_i64 o14.Stmt.Index.Coeffs), .sl 2 (List.map a_Term o14.Stmt.Facts), .int .i64 o14.at_, .sl 1 (List.map a_Ptree o14.kids)]), (16, .cp [.int .i64 o14.at_]), (17, .int .i64 o14.at_), (18, .int .i64 r9), (19, .ptr 3 ((o14.at_).toNat) 0), (20, .cp [.int .i64 o14.Stmt.Kind, .int .i64 o14.Stmt.Var, .int .i64 o14.Stmt.Event, .int .i64 o14.Stmt.Sum.Const, .sl 1 (List.map a_i64 o14.Stmt.Sum.Coeffs), .int .i64 o14.Stmt.Index.Const, .sl 1 (List.map a_i64 o14.Stmt.Index.Coeffs), .sl 2 (List.map a_Term o14.Stmt.Facts), .int .i64 o14.at_, .sl 1 (List.map a_Ptree o14.kids)]), (21, .cp [.int .i64 o14.Stmt.Kind, .int .i64 o14.Stmt.Var, .int .i64 o14.Stmt.Event, .int .i64 o14.Stmt.Sum.Const, .sl 1 (List.map a_i64 o14.Stmt.Sum.Coeffs), .int .i64 o14.Stmt.Index.Const, .sl 1 (List.map a_i64 o14.Stmt.Index.Coeffs), .sl 2 (List.map a_Term o14.Stmt.Facts), .int .i64 o14.at_, .sl 1 (List.map a_Ptree o14.kids)]), (22, .cp [.int .i64 o14.Stmt.Kind, .int .i64 o14.Stmt.Var, .int .i64 o14.Stmt.Event, .int .i64 o14.Stmt.Sum.Const, .sl 1 (List.map a_i64 o14.Stmt.Sum.Coeffs), .int .i64 o14.Stmt.Index.Const, .sl 1 (List.map a_i64 o14.Stmt.Index.Coeffs), .sl 2 (List.map a_Term o14.Stmt.Facts)]), (23, .cp [.int .i64 o14.Stmt.Kind]), (24, .int .i64 o14.Stmt.Kind), (25, .bool (decide (o14.Stmt.Kind = (1 : Int)))), (26, .bool (decide (o14.Stmt.Kind = (1 : Int)))), (43, .bool (decide (o14.Stmt.Kind = (2 : Int)))), (44, .bool (decide (o14.Stmt.Kind = (2 : Int)))), (59, .bool (decide (o14.Stmt.Kind = (3 : Int)))), (60, .bool (decide (o14.Stmt.Kind = (3 : Int)))), (77, .bool (decide (o14.Stmt.Kind = (4 : Int)))), (78, .bool (decide (o14.Stmt.Kind = (4 : Int)))), (95, .bool (decide (o14.Stmt.Kind = (5 : Int)))), (96, .bool (decide (o14.Stmt.Kind = (5 : Int)))), (104, .bool (decide (o14.Stmt.Kind = (6 : Int)))), (105, .bool (decide (o14.Stmt.Kind = (6 : Int)))), (115, .bool (decide (o14.Stmt.Kind = (7 : Int)))), (116, .bool (decide (o14.Stmt.Kind = (7 : Int)))), (166, .bool (decide (o14.Stmt.Kind = (8 : Int)))), (167, .bool (decide (o14.Stmt.Kind = (8 : Int)))), (168, .ptr 0 0 0), (169, .ptr 0 0 0), (170, .ptr 0 0 0), (171, .ptr 0 0 1), (173, .int .i64 r9), (174, .cp [.int .i64 o14.Stmt.Kind, .int .i64 o14.Stmt.Var, .int .i64 o14.Stmt.Event, .int .i64 o14.Stmt.Sum.Const, .sl 1 (List.map a_i64 o14.Stmt.Sum.Coeffs), .int .i64 o14.Stmt.Index.Const, .sl 1 (List.map a_i64 o14.Stmt.Index.Coeffs), .sl 2 (List.map a_Term o14.Stmt.Facts), .int .i64 o14.at_, .sl 1 (List.map a_Ptree o14.kids)]), (175, .cp [.int .i64 o14.Stmt.Kind, .int .i64 o14.Stmt.Var, .int .i64 o14.Stmt.Event, .int .i64 o14.Stmt.Sum.Const, .sl 1 (List.map a_i64 o14.Stmt.Sum.Coeffs), .int .i64 o14.Stmt.Index.Const, .sl 1 (List.map a_i64 o14.Stmt.Index.Coeffs), .sl 2 (List.map a_Term o14.Stmt.Facts), .int .i64 o14.at_, .sl 1 (List.map a_Ptree o14.kids)]), (176, .cp [.int .i64 o14.Stmt.Kind, .int .i64 o14.Stmt.Var, .int .i64 o14.Stmt.Event, .int .i64 o14.Stmt.Sum.Const, .sl 1 (List.map a_i64 o14.Stmt.Sum.Coeffs), .int .i64 o14.Stmt.Index.Const, .sl 1 (List.map a_i64 o14.Stmt.Index.Coeffs), .sl 2 (List.map a_Term o14.Stmt.Facts)]), (177, .cp [.sl 2 (List.map a_Term o14.Stmt.Facts)]), (178, .sl 2 (List.map a_Term o14.Stmt.Facts)), (179, .ow 5291)], [(0, .box [.ow 1, .ow 2, .ow 3, .ow 4]), (1, .arr ⟨false, true⟩ 2 172 (List.map a_Instr p0.code)), (2, .arr ⟨false, true⟩ 2 71 (List.map a_Point p0.points)), (3, .arr ⟨false, true⟩ 1 2 (List.map a_i64 (p0.from_.set ((o14.at_).toNat) r9))), (4, .arr ⟨false, true⟩ 1 2 (List.map a_i64 p0.to)), (5291, .arr ⟨false, true⟩ 2 67 (List.map a_Term r179))]⟩ ?_ (fun hS4330_4 => ?_)
                      · refine TZ_pure 12 (by kernel_rfl) rfl rfl rfl rfl rfl (op_buildP pl71 z71 rfl rfl rfl rfl rfl) ?_
                        refine TZ_each [4, 13] (by kernel_rfl) rfl ?_
                        refine ⟨?_, ?_⟩
                        · refine ⟨_, rfl, ?_⟩
                          refine TL_pure rfl rfl rfl rfl (op_load_one ag61 rfl rfl) ?_
                          refine TL_nil ?_
                          refine TZ_keepH [0, 1, 4, 8, 9, 10, 11, 12, 13, 14, 15, 16, 17, 18, 19, 20, 21, 22, 23, 24, 25, 26, 43, 44, 59, 60, 77, 78, 95, 96, 104, 105, 115, 116, 166, 167, 168, 169, 170, 171, 172, 173, 174, 175, 176, 177, 178, 179, 180] [0, 1, 2, 3, 4, 5291] rfl rfl rfl rfl (by rw [hF]; rfl) ?_
                          exact hS4330_2
                        · refine ⟨_, rfl, ?_⟩
                          refine TL_buildSliceD (ids := [5291]) (es := List.map a_Point [(Point.mk r9 r179)]) 5451 el61 z71 rfl rfl rfl rfl rfl rfl (by rw [hF]; intro j hj; simp only [List.mem_cons, List.not_mem_nil, or_false] at hj; rcases hj with rfl <;> rfl) rfl rfl rfl rfl rfl rfl ?_
                          refine TL_nil ?_
                          refine TZ_keepH [0, 1, 4, 8, 9, 10, 11, 12, 13, 14, 15, 16, 17, 18, 19, 20, 21, 22, 23, 24, 25, 26, 43, 44, 59, 60, 77, 78, 95, 96, 104, 105, 115, 116, 166, 167, 168, 169, 170, 171, 173, 174, 175, 176, 177, 178, 179, 180, 181] [0, 1, 2, 3, 4, 5451] rfl rfl rfl rfl (by rw [hF]; rfl) ?_
                          exact hS4330_3
                      refine TZ_cut 8 [true, true, true, true, false, true, true, true, true, true, true, false, false, false, false, false, false, false] ⟨[(0, .ptr 0 0 0), (1, a_Ptree p1), (4, .int .i64 r9), (8, .ptr 0 0 0), (9, .int .i64 r9), (10, .ptr 0 0 0), (11, .ptr 0 0 0), (12, .ptr 0 0 2), (13, .ow 3), (14, .cp [.int .i64 o14.Stmt.Kind, .int .i64 o14.Stmt.Var, .int .i64 o14.Stmt.Event, .int .i64 o14.Stmt.Sum.Const, .sl 1 (List.map a_i64 o14.Stmt.Sum.Coeffs), .int .i64 o14.Stmt.Index.Const, .sl 1 (List.map a_i64 o14.Stmt.Index.Coeffs), .sl 2 (List.map a_Term o14.Stmt.Facts), .int .i64 o14.at_, .sl 1 (List.map a_Ptree o14.kids)]), (15, .cp [.int .i64 o14.Stmt.Kind, .int .i64 o14.Stmt.Var, .int .i64 o14.Stmt.Event, .int .i64 o14.Stmt.Sum.Const, .sl 1 (List.map a_i64 o14.Stmt.Sum.Coeffs), .int .i64 o14.Stmt.Index.Const, .sl 1 (List.map a_i64 o14.Stmt.Index.Coeffs), .sl 2 (List.map a_Term o14.Stmt.Facts), .int .i64 o14.at_, .sl 1 (List.map a_Ptree o14.kids)]), (16, .cp [.int .i64 o14.at_]), (17, .int .i64 o14.at_), (18, .int .i64 r9), (19, .ptr 3 ((o14.at_).toNat) 0), (20, .cp [.int .i64 o14.Stmt.Kind, .int .i64 o14.Stmt.Var, .int .i64 o14.Stmt.Event, .int .i64 o14.Stmt.Sum.Const, .sl 1 (List.map a_i64 o14.Stmt.Sum.Coeffs), .int .i64 o14.Stmt.Index.Const, .sl 1 (List.map a_i64 o14.Stmt.Index.Coeffs), .sl 2 (List.map a_Term o14.Stmt.Facts), .int .i64 o14.at_, .sl 1 (List.map a_Ptree o14.kids)]), (21, .cp [.int .i64 o14.Stmt.Kind, .int .i64 o14.Stmt.Var, .int .i64 o14.Stmt.Event, .int .i64 o14.Stmt.Sum.Const, .sl 1 (List.map a_i64 o14.Stmt.Sum.Coeffs), .int .i64 o14.Stmt.Index.Const, .sl 1 (List.map a_i64 o14.Stmt.Index.Coeffs), .sl 2 (List.map a_Term o14.Stmt.Facts), .int .i64 o14.at_, .sl 1 (List.map a_Ptree o14.kids)]), (22, .cp [.int .i64 o14.Stmt.Kind, .int .i64 o14.Stmt.Var, .int .i64 o14.Stmt.Event, .int .i64 o14.Stmt.Sum.Const, .sl 1 (List.map a_i64 o14.Stmt.Sum.Coeffs), .int .i64 o14.Stmt.Index.Const, .sl 1 (List.map a_i64 o14.Stmt.Index.Coeffs), .sl 2 (List.map a_Term o14.Stmt.Facts)]), (23, .cp [.int .i64 o14.Stmt.Kind]), (24, .int .i64 o14.Stmt.Kind), (25, .bool (decide (o14.Stmt.Kind = (1 : Int)))), (26, .bool (decide (o14.Stmt.Kind = (1 : Int)))), (43, .bool (decide (o14.Stmt.Kind = (2 : Int)))), (44, .bool (decide (o14.Stmt.Kind = (2 : Int)))), (59, .bool (decide (o14.Stmt.Kind = (3 : Int)))), (60, .bool (decide (o14.Stmt.Kind = (3 : Int)))), (77, .bool (decide (o14.Stmt.Kind = (4 : Int)))), (78, .bool (decide (o14.Stmt.Kind = (4 : Int)))), (95, .bool (decide (o14.Stmt.Kind = (5 : Int)))), (96, .bool (decide (o14.Stmt.Kind = (5 : Int)))), (104, .bool (decide (o14.Stmt.Kind = (6 : Int)))), (105, .bool (decide (o14.Stmt.Kind = (6 : Int)))), (115, .bool (decide (o14.Stmt.Kind = (7 : Int)))), (116, .bool (decide (o14.Stmt.Kind = (7 : Int)))), (166, .bool (decide (o14.Stmt.Kind = (8 : Int)))), (167, .bool (decide (o14.Stmt.Kind = (8 : Int)))), (168, .ptr 0 0 0), (169, .ptr 0 0 0), (170, .ptr 0 0 0), (171, .ptr 0 0 1), (173, .int .i64 r9), (174, .cp [.int .i64 o14.Stmt.Kind, .int .i64 o14.Stmt.Var, .int .i64 o14.Stmt.Event, .int .i64 o14.Stmt.Sum.Const, .sl 1 (List.map a_i64 o14.Stmt.Sum.Coeffs), .int .i64 o14.Stmt.Index.Const, .sl 1 (List.map a_i64 o14.Stmt.Index.Coeffs), .sl 2 (List.map a_Term o14.Stmt.Facts), .int .i64 o14.at_, .sl 1 (List.map a_Ptree o14.kids)]), (175, .cp [.int .i64 o14.Stmt.Kind, .int .i64 o14.Stmt.Var, .int .i64 o14.Stmt.Event, .int .i64 o14.Stmt.Sum.Const, .sl 1 (List.map a_i64 o14.Stmt.Sum.Coeffs), .int .i64 o14.Stmt.Index.Const, .sl 1 (List.map a_i64 o14.Stmt.Index.Coeffs), .sl 2 (List.map a_Term o14.Stmt.Facts), .int .i64 o14.at_, .sl 1 (List.map a_Ptree o14.kids)]), (176, .cp [.int .i64 o14.Stmt.Kind, .int .i64 o14.Stmt.Var, .int .i64 o14.Stmt.Event, .int .i64 o14.Stmt.Sum.Const, .sl 1 (List.map a_i64 o14.Stmt.Sum.Coeffs), .int .i64 o14.Stmt.Index.Const, .sl 1 (List.map a_i64 o14.Stmt.Index.Coeffs), .sl 2 (List.map a_Term o14.Stmt.Facts)]), (177, .cp [.sl 2 (List.map a_Term o14.Stmt.Facts)]), (178, .sl 2 (List.map a_Term o14.Stmt.Facts))], [(0, .box [.ow 1, .ow 2, .ow 3, .ow 4]), (1, .arr ⟨false, true⟩ 2 172 (List.map a_Instr p0.code)), (2, .arr ⟨false, true⟩ 2 71 (List.map a_Point p0.points)), (3, .arr ⟨false, true⟩ 1 2 (List.map a_i64 (p0.from_.set ((o14.at_).toNat) r9))), (4, .arr ⟨false, true⟩ 1 2 (List.map a_i64 p0.to))]⟩ ?_ (fun hS4330_5 => ?_)
                      · refine TZ_each [4, 11] (by kernel_rfl) rfl ?_
                        refine ⟨?_, ?_⟩
                        · refine ⟨_, rfl, ?_⟩
                          refine TL_pure rfl rfl rfl rfl (op_load_one ag61 rfl rfl) ?_
                          refine TL_nil ?_
                          refine TZ_keepH [0, 1, 4, 8, 9, 10, 11, 12, 13, 14, 15, 16, 17, 18, 19, 20, 21, 22, 23, 24, 25, 26, 43, 44, 59, 60, 77, 78, 95, 96, 104, 105, 115, 116, 166, 167, 168, 169, 170, 171, 172, 173, 174, 175, 176, 177, 178] [0, 1, 2, 3, 4] rfl rfl rfl rfl (by rw [hF]; rfl) ?_
                          exact hS4330_1
                        · refine ⟨_, rfl, ?_⟩
                          refine TL_callO [(1000, 5291)] (c_impl_ownTerms o14.Stmt.Facts r179 hr179) Try.call50 rfl rfl rfl rfl rfl rfl rfl rfl rfl rfl rfl rfl rfl ?_
                          refine TL_nil ?_
                          refine TZ_keepH [0, 1, 4, 8, 9, 10, 11, 12, 13, 14, 15, 16, 17, 18, 19, 20, 21, 22, 23, 24, 25, 26, 43, 44, 59, 60, 77, 78, 95, 96, 104, 105, 115, 116, 166, 167, 168, 169, 170, 171, 173, 174, 175, 176, 177, 178, 179] [0, 1, 2, 3, 4, 5291] rfl rfl rfl rfl (by rw [hF]; rfl) ?_
                          exact hS4330_4
                      refine TZ_each [4, 10] (by kernel_rfl) rfl ?_
                      refine ⟨?_, ?_⟩
                      · refine ⟨_, rfl, ?_⟩
                        refine TL_pure rfl rfl rfl rfl (op_load_one ag61 rfl rfl) ?_
                        refine TL_nil ?_
                        refine TZ_keepH [0, 1, 4, 8, 9, 10, 11, 12, 13, 14, 15, 16, 17, 18, 19, 20, 21, 22, 23, 24, 25, 26, 43, 44, 59, 60, 77, 78, 95, 96, 104, 105, 115, 116, 166, 167, 168, 169, 170, 171, 172, 173, 174, 175, 176, 177] [0, 1, 2, 3, 4] rfl rfl rfl rfl (by rw [hF]; rfl) ?_
                        exact hS4330_0
                      · refine ⟨_, rfl, ?_⟩
                        refine TL_pure rfl rfl rfl rfl (op_load_one ag30 rfl rfl) ?_
                        refine TL_nil ?_
                        refine TZ_keepH [0, 1, 4, 8, 9, 10, 11, 12, 13, 14, 15, 16, 17, 18, 19, 20, 21, 22, 23, 24, 25, 26, 43, 44, 59, 60, 77, 78, 95, 96, 104, 105, 115, 116, 166, 167, 168, 169, 170, 171, 173, 174, 175, 176, 177, 178] [0, 1, 2, 3, 4] rfl rfl rfl rfl (by rw [hF]; rfl) ?_
                        exact hS4330_5
                  · replace hm := condF hq hm
                    refine T_skip ?_
                    refine T_keepH [0, 1] [0, 1, 2, 3, 4] rfl rfl rfl rfl (by rw [hF]; rfl) ?_
                    exact hj1 (p0.code, p0.points, (p0.from_.set ((o14.at_).toNat) r9), p0.to) hm
theorem c_impl_compiling_compile : ∀ (n : Nat) (p0 : compiling) (p1 : Ptree) (out : compiling), m_impl_compiling_compile n p0 p1 = some out → ACall Try.prog 88 [.ptr 0 0 0, a_Ptree p1] [(0, .box [.ow 1, .ow 2, .ow 3, .ow 4]), (1, .arr ⟨false, true⟩ 2 172 (List.map a_Instr p0.code)), (2, .arr ⟨false, true⟩ 2 71 (List.map a_Point p0.points)), (3, .arr ⟨false, true⟩ 1 2 (List.map a_i64 p0.from_)), (4, .arr ⟨false, true⟩ 1 2 (List.map a_i64 p0.to))] (.tup []) [(0, .box [.ow 1, .ow 2, .ow 3, .ow 4]), (1, .arr ⟨false, true⟩ 2 172 (List.map a_Instr out.code)), (2, .arr ⟨false, true⟩ 2 71 (List.map a_Point out.points)), (3, .arr ⟨false, true⟩ 1 2 (List.map a_i64 out.from_)), (4, .arr ⟨false, true⟩ 1 2 (List.map a_i64 out.to))] := by
  intro n
  induction n with
  | zero => intro p0 p1 out hm; cases hm
  | succ n ih => intro p0 p1 out hm; exact c_impl_compiling_compile_F (m_impl_compiling_compile n) ih p0 p1 out hm
theorem c_impl_compiled (p0 : Program) (out : compiling × Bool) (hm : m_impl_compiled p0 = some out) : ACall Try.prog 59 [.agg [.sl 2 (List.map a_Term p0.Pre), .sl 8 (List.map a_Stmt p0.Body), .sl 2 (List.map a_Term p0.Post)]] [] (bif out.2 then .tup [.ptr 1000 0 0, .bool true] else .tup [.nilp, .bool false]) (bif out.2 then [(1000, .box [.ow 1001, .ow 1002, .ow 1003, .ow 1004]), (1001, .arr ⟨false, true⟩ 2 172 (List.map a_Instr out.1.code)), (1002, .arr ⟨false, true⟩ 2 71 (List.map a_Point out.1.points)), (1003, .arr ⟨false, true⟩ 1 2 (List.map a_i64 out.1.from_)), (1004, .arr ⟨false, true⟩ 1 2 (List.map a_i64 out.1.to))] else []) := by
  refine ACall.intro Try.func59 rfl Try.ntmps59 rfl (fun F hF => ?_)
  unfold m_impl_compiled at hm
  refine T_seq ?_
  refine T_region ?_
  refine TL_box 11 rfl rfl rfl rfl rfl rfl rfl ?_
  refine TL_pure rfl rfl rfl rfl (op_assign rfl) ?_
  refine TL_pure rfl rfl rfl rfl (op_assign rfl) ?_
  refine TL_nil ?_
  refine T_seq ?_
  refine T_seq ?_
  refine T_region ?_
  refine TL_pure rfl rfl rfl rfl (op_load_agg ag33 sz33 rfl rfl rfl) ?_
  obtain ⟨r8, hr8, hm⟩ := bindS hm
  refine TL_callF (c_impl_ValidProgram p0 r8 hr8) Try.call74 rfl rfl rfl rfl rfl ?_
  refine TL_pure rfl rfl rfl rfl (op_not rfl) ?_
  refine TL_nil ?_
  refine T_cond rfl (fun hq => ?_) (fun hq => ?_)
  · replace hm := condT hq hm
    refine T_seq ?_
    refine T_region ?_
    refine TL_pure rfl rfl rfl rfl (op_assign rfl) ?_
    refine TL_pure rfl rfl rfl rfl (op_assign rfl) ?_
    refine TL_nil ?_
    refine T_keepH [2, 3] [] rfl rfl rfl rfl (by rw [hF]; rfl) ?_
    refine T_ret ?_
    obtain rfl := someI hm
    refine ⟨[_, _], [], ⟨rfl, rfl, trivial⟩, ?_, rfl, rfl, rfl, rfl⟩
    rfl
  · replace hm := condF hq hm
    refine T_skip ?_
    refine T_seq ?_
    refine T_region ?_
    refine TL_pure rfl rfl rfl rfl (op_fieldAddr fa33_1 rfl rfl) ?_
    refine TL_pure rfl rfl rfl rfl (op_load_one ag31 rfl rfl) ?_
    obtain ⟨r13, hr13, hm⟩ := bindS hm
    refine TL_callT (c_impl_treeOf p0.Body r13 hr13) Try.call75 rfl rfl rfl rfl rfl ?_
    refine TL_pure rfl rfl rfl rfl (op_move rfl) ?_
    refine TL_pure rfl rfl rfl rfl (op_extract rfl rfl) ?_
    refine TL_pure rfl rfl rfl rfl (op_extract rfl rfl) ?_
    refine TL_pure rfl rfl rfl rfl (op_assign rfl) ?_
    refine TL_pure rfl rfl rfl rfl (op_assign rfl) ?_
    refine TL_nil ?_
    refine T_join (fun (j0 : (List Int) × (List Int)) => ⟨[(4, a_Ptree r13.1), (6, .ptr 812 0 0)], [(332, .arr ⟨false, false⟩ 1 2 (List.map a_i64 j0.1)), (652, .arr ⟨false, false⟩ 1 2 (List.map a_i64 j0.2)), (812, .box [.snil, .snil, .ow 332, .ow 652])]⟩) (fun j0 => m_impl_compiled_J0 r13 j0 = some out) (fun j0 hm => ?_) (fun hj0 => ?_)
    · unfold m_impl_compiled_J0 at hm
      refine T_seq ?_
      refine T_region ?_
      refine TL_pure rfl rfl rfl rfl (op_move rfl) ?_
      refine TL_pure rfl rfl rfl rfl (op_move rfl) ?_
      refine TL_ownNilBox 812 0 892 ⟨false, true⟩ 172 rfl rfl rfl (sz := 2) rfl rfl rfl rfl ?_
      refine TL_ownNilBox 812 1 893 ⟨false, true⟩ 71 rfl rfl rfl (sz := 2) rfl rfl rfl rfl ?_
      refine TL_deepen 332 (p' := false) (List.map a_i64 j0.1) (by rw [hF]; rfl) rfl (ElR.map (f := a_i64) (g := a_i64) (fun _ => ⟨⟨rfl, rfl⟩, trivial⟩) j0.1) rfl rfl rfl ?_
      refine TL_deepen 652 (p' := false) (List.map a_i64 j0.2) (by rw [hF]; rfl) rfl (ElR.map (f := a_i64) (g := a_i64) (fun _ => ⟨⟨rfl, rfl⟩, trivial⟩) j0.2) rfl rfl rfl ?_
      obtain ⟨r28, hr28, hm⟩ := bindS hm
      refine TL_call [(0, 812), (1, 892), (2, 893), (3, 332), (4, 652)] [] [892, 893, 332, 652] (c_impl_compiling_compile 1000 (compiling.mk ([] : List Instr) ([] : List Point) j0.1 j0.2) r13.1 r28 hr28) Try.call88 rfl rfl rfl rfl rfl ⟨rfl, rfl, rfl, rfl, rfl, trivial⟩ rfl rfl rfl rfl rfl rfl rfl rfl rfl rfl rfl ?_
      refine TL_nil ?_
      refine T_seq ?_
      refine T_region ?_
      refine TL_pure rfl rfl rfl rfl (op_move rfl) ?_
      obtain ⟨r30, hr30, hm⟩ := bindS hm
      refine TL_call [(0, 812), (1, 892), (2, 893), (3, 332), (4, 652)] [] [892, 893, 332, 652] (c_impl_compiling_emit r28 (11 : Int) (0 : Int) r30 hr30) Try.call89 rfl rfl rfl rfl rfl ⟨rfl, rfl, rfl, rfl, rfl, trivial⟩ rfl rfl rfl rfl rfl rfl rfl rfl rfl rfl rfl ?_
      refine TL_nil ?_
      refine T_seq ?_
      refine T_region ?_
      refine TL_pure rfl rfl rfl rfl (op_move rfl) ?_
      refine TL_pure rfl rfl rfl rfl (op_assign rfl) ?_
      refine TL_pure rfl rfl rfl rfl (op_assign rfl) ?_
      refine TL_nil ?_
      refine T_keepH [2, 3] [332, 652, 812, 892, 893] rfl rfl rfl rfl (by rw [hF]; rfl) ?_
      refine T_ren [(332, 1003), (652, 1004), (812, 1000), (892, 1001), (893, 1002)] rfl rfl rfl (by rw [hF]; rfl) ?_
      refine T_keepH [2, 3] [1000, 1001, 1002, 1003, 1004] rfl rfl rfl rfl (by rw [hF]; rfl) ?_
      refine T_ret ?_
      obtain rfl := someI hm
      refine ⟨[_, _], [1000, 1001, 1002, 1003, 1004], ⟨rfl, rfl, trivial⟩, ?_, rfl, rfl, rfl, rfl⟩
      rfl
    · refine T_drawZ [] mix (by kernel_rfl) rfl ?_
      obtain ⟨k19, hk19, hm⟩ := bindS hm
      obtain ⟨k23, hk23, hm⟩ := bindS hm
      refine TZ_pure 0 (by kernel_rfl) rfl rfl rfl rfl rfl (op_fieldAddr fa33_1 rfl rfl) ?_
      refine TZ_pure 1 (by kernel_rfl) rfl rfl rfl rfl rfl (op_load_one ag31 rfl rfl) ?_
      refine TZ_pure 2 (by kernel_rfl) rfl rfl rfl rfl rfl (op_lenT Try.underlying31 rfl (List.length_map _)) ?_
      refine TZ_fact (fun _ _ _ hr => RelP.slLen (i := 17) rfl hr) (fun hlen18 => ?_)
      rw [List.length_map] at hlen18
      refine TZ_pure 4 (by kernel_rfl) rfl rfl rfl rfl rfl (op_fieldAddr fa33_1 rfl rfl) ?_
      refine TZ_pure 5 (by kernel_rfl) rfl rfl rfl rfl rfl (op_load_one ag31 rfl rfl) ?_
      refine TZ_pure 6 (by kernel_rfl) rfl rfl rfl rfl rfl (op_lenT Try.underlying31 rfl (List.length_map _)) ?_
      refine TZ_cut 4 [true, true, true, true, true, true, true, false, false, false, false] ⟨[(0, .agg [.sl 2 (List.map a_Term p0.Pre), .sl 8 (List.map a_Stmt p0.Body), .sl 2 (List.map a_Term p0.Post)]), (1, .ptr 11 0 0), (2, .nilp), (3, .bool false), (4, a_Ptree r13.1), (5, .bool r13.2), (7, .agg [.sl 2 (List.map a_Term p0.Pre), .sl 8 (List.map a_Stmt p0.Body), .sl 2 (List.map a_Term p0.Post)]), (8, .bool r8), (9, .bool (!r8)), (10, .tup [a_Ptree r13.1, .bool r13.2]), (11, .ptr 11 0 1), (12, .sl 8 (List.map a_Stmt p0.Body)), (13, .tup [a_Ptree r13.1, .bool r13.2]), (14, a_Ptree r13.1), (15, .bool r13.2), (16, .ptr 11 0 1), (17, .sl 8 (List.map a_Stmt p0.Body)), (18, .int .i64 (p0.Body.length : Int)), (19, .ow 1214), (20, .ptr 11 0 1), (21, .sl 8 (List.map a_Stmt p0.Body)), (22, .int .i64 (p0.Body.length : Int))], [(11, .box [.sl 2 (List.map a_Term p0.Pre), .sl 8 (List.map a_Stmt p0.Body), .sl 2 (List.map a_Term p0.Post)]), (1214, .arr ⟨false, false⟩ 1 2 (List.map a_i64 (List.replicate k19 (0 : Int))))]⟩ ?_ (fun hS893_0 => ?_)
      · refine TZ_one 7 (by kernel_rfl) rfl ?_
        refine TL_make 1534 (n := k23) el27 z2 rfl rfl rfl rfl rfl rfl (makeI_spec hk23).1 (makeI_spec hk23).1 (makeI_spec hk23).2 rfl rfl rfl rfl ?_
        refine TL_nils 1534 (List.map a_i64 (List.replicate k23 (0 : Int))) (by rw [hF]; rfl) rfl (ElR.rep (z := .int .i64 (0 : Int)) (g := a_i64) (x := (0 : Int)) ⟨⟨rfl, rfl⟩, trivial⟩ k23) rfl ?_
        refine TL_nil ?_
        refine TZ_pure 8 (by kernel_rfl) rfl rfl rfl rfl rfl (op_buildP pl114 z114 rfl rfl rfl rfl rfl) ?_
        refine TZ_one 9 (by kernel_rfl) rfl ?_
        refine TL_box 1694 rfl rfl rfl rfl rfl rfl rfl ?_
        refine TL_nil ?_
        refine TZ_pure 10 (by kernel_rfl) rfl rfl rfl rfl rfl (op_assign rfl) ?_
        refine TZ_done (by kernel_rfl) ?_
        refine T_keepH [4, 6] [1214, 1534, 1694] rfl rfl rfl rfl (by rw [hF]; rfl) ?_
        refine T_ren [(1214, 332), (1534, 652), (1694, 812)] rfl rfl rfl (by rw [hF]; rfl) ?_
        exact hj0 ((List.replicate k19 (0 : Int)), (List.replicate k23 (0 : Int))) hm
      refine TZ_cut 4 [true, true, true, false, true, true, true, true, false, false, false] ⟨[(0, .agg [.sl 2 (List.map a_Term p0.Pre), .sl 8 (List.map a_Stmt p0.Body), .sl 2 (List.map a_Term p0.Post)]), (1, .ptr 11 0 0), (2, .nilp), (3, .bool false), (4, a_Ptree r13.1), (5, .bool r13.2), (7, .agg [.sl 2 (List.map a_Term p0.Pre), .sl 8 (List.map a_Stmt p0.Body), .sl 2 (List.map a_Term p0.Post)]), (8, .bool r8), (9, .bool (!r8)), (10, .tup [a_Ptree r13.1, .bool r13.2]), (11, .ptr 11 0 1), (12, .sl 8 (List.map a_Stmt p0.Body)), (13, .tup [a_Ptree r13.1, .bool r13.2]), (14, a_Ptree r13.1), (15, .bool r13.2), (16, .ptr 11 0 1), (17, .sl 8 (List.map a_Stmt p0.Body)), (18, .int .i64 (p0.Body.length : Int)), (20, .ptr 11 0 1), (21, .sl 8 (List.map a_Stmt p0.Body)), (22, .int .i64 (p0.Body.length : Int)), (23, .ow 1534)], [(11, .box [.sl 2 (List.map a_Term p0.Pre), .sl 8 (List.map a_Stmt p0.Body), .sl 2 (List.map a_Term p0.Post)]), (1534, .arr ⟨false, false⟩ 1 2 (List.map a_i64 (List.replicate k23 (0 : Int))))]⟩ ?_ (fun hS893_1 => ?_)
      · refine TZ_one 3 (by kernel_rfl) rfl ?_
        refine TL_make 1214 (n := k19) el27 z2 rfl rfl rfl rfl rfl rfl (makeI_spec hk19).1 (makeI_spec hk19).1 (makeI_spec hk19).2 rfl rfl rfl rfl ?_
        refine TL_nils 1214 (List.map a_i64 (List.replicate k19 (0 : Int))) (by rw [hF]; rfl) rfl (ElR.rep (z := .int .i64 (0 : Int)) (g := a_i64) (x := (0 : Int)) ⟨⟨rfl, rfl⟩, trivial⟩ k19) rfl ?_
        refine TL_nil ?_
        refine TZ_pure 8 (by kernel_rfl) rfl rfl rfl rfl rfl (op_buildP pl114 z114 rfl rfl rfl rfl rfl) ?_
        refine TZ_one 9 (by kernel_rfl) rfl ?_
        refine TL_box 1694 rfl rfl rfl rfl rfl rfl rfl ?_
        refine TL_nil ?_
        refine TZ_pure 10 (by kernel_rfl) rfl rfl rfl rfl rfl (op_assign rfl) ?_
        refine TZ_done (by kernel_rfl) ?_
        refine T_keepH [4, 6] [1214, 1534, 1694] rfl rfl rfl rfl (by rw [hF]; rfl) ?_
        refine T_ren [(1214, 332), (1534, 652), (1694, 812)] rfl rfl rfl (by rw [hF]; rfl) ?_
        exact hj0 ((List.replicate k19 (0 : Int)), (List.replicate k23 (0 : Int))) hm
      refine TZ_each [3, 7] (by kernel_rfl) rfl ?_
      refine ⟨?_, ?_⟩
      · refine ⟨_, rfl, ?_⟩
        refine TL_make 1214 (n := k19) el27 z2 rfl rfl rfl rfl rfl rfl (makeI_spec hk19).1 (makeI_spec hk19).1 (makeI_spec hk19).2 rfl rfl rfl rfl ?_
        refine TL_nils 1214 (List.map a_i64 (List.replicate k19 (0 : Int))) (by rw [hF]; rfl) rfl (ElR.rep (z := .int .i64 (0 : Int)) (g := a_i64) (x := (0 : Int)) ⟨⟨rfl, rfl⟩, trivial⟩ k19) rfl ?_
        refine TL_nil ?_
        refine TZ_keepH [0, 1, 2, 3, 4, 5, 7, 8, 9, 10, 11, 12, 13, 14, 15, 16, 17, 18, 19, 20, 21, 22] [11, 1214] rfl rfl rfl rfl (by rw [hF]; rfl) ?_
        exact hS893_0
      · refine ⟨_, rfl, ?_⟩
        refine TL_make 1534 (n := k23) el27 z2 rfl rfl rfl rfl rfl rfl (makeI_spec hk23).1 (makeI_spec hk23).1 (makeI_spec hk23).2 rfl rfl rfl rfl ?_
        refine TL_nils 1534 (List.map a_i64 (List.replicate k23 (0 : Int))) (by rw [hF]; rfl) rfl (ElR.rep (z := .int .i64 (0 : Int)) (g := a_i64) (x := (0 : Int)) ⟨⟨rfl, rfl⟩, trivial⟩ k23) rfl ?_
        refine TL_nil ?_
        refine TZ_keepH [0, 1, 2, 3, 4, 5, 7, 8, 9, 10, 11, 12, 13, 14, 15, 16, 17, 18, 20, 21, 22, 23] [11, 1534] rfl rfl rfl rfl (by rw [hF]; rfl) ?_
        exact hS893_1
theorem c_impl_PlacesOf (p0 : Program) (out : (List Int) × Bool) (hm : m_impl_PlacesOf p0 = some out) : ACall Try.prog 31 [.agg [.sl 2 (List.map a_Term p0.Pre), .sl 8 (List.map a_Stmt p0.Body), .sl 2 (List.map a_Term p0.Post)]] [] (.tup [.ow 1000, .bool out.2]) [(1000, .arr ⟨false, true⟩ 1 2 (List.map a_i64 out.1))] := by
  refine ACall.intro Try.func31 rfl Try.ntmps31 rfl (fun F hF => ?_)
  unfold m_impl_PlacesOf at hm
  refine T_seq ?_
  refine T_region ?_
  refine TL_box 11 rfl rfl rfl rfl rfl rfl rfl ?_
  refine TL_pure rfl rfl rfl rfl (op_assign rfl) ?_
  refine TL_pure rfl rfl rfl rfl (op_assign rfl) ?_
  refine TL_nil ?_
  refine T_seq ?_
  refine T_region ?_
  refine TL_pure rfl rfl rfl rfl (op_load_agg ag33 sz33 rfl rfl rfl) ?_
  obtain ⟨r8, hr8, hm⟩ := bindS hm
  rcases Bool.eq_false_or_eq_true r8.2 with hq | hq
  · replace hm := condT hq hm
    refine TLE_call [] [(1000, 12), (1001, 13), (1002, 14), (1003, 15), (1004, 16)] [] (by have hc := c_impl_compiled p0 r8 hr8; rw [hq] at hc; exact hc) (fun _ => rfl) Try.call59 rfl rfl rfl rfl rfl trivial rfl rfl rfl rfl rfl rfl rfl rfl rfl rfl rfl ?_
    refine TL_pure rfl rfl rfl rfl (op_move rfl) ?_
    refine TL_pure rfl rfl rfl rfl (op_extract rfl rfl) ?_
    refine TL_pure rfl rfl rfl rfl (op_extract rfl rfl) ?_
    refine TL_pure rfl rfl rfl rfl (op_assign rfl) ?_
    refine TL_pure rfl rfl rfl rfl (op_assign rfl) ?_
    refine TL_nil ?_
    refine T_seq ?_
    refine T_seq ?_
    refine T_region ?_
    refine TL_pure rfl rfl rfl rfl (op_move rfl) ?_
    refine TL_pure rfl rfl rfl rfl (op_not rfl) ?_
    refine TL_nil ?_
    refine T_cond_false rfl ?_
    refine T_skip ?_
    refine T_seq ?_
    refine T_region ?_
    refine TL_pure rfl rfl rfl rfl (op_move rfl) ?_
    refine TL_pure rfl rfl rfl rfl (op_nilCheck rfl rfl) ?_
    refine TL_pure rfl rfl rfl rfl (op_fieldAddr fa114_2 rfl rfl) ?_
    refine TL_pure rfl rfl rfl rfl (op_load_one ag27 rfl rfl) ?_
    refine TL_pure rfl rfl rfl rfl (op_assign rfl) ?_
    refine TL_pure rfl rfl rfl rfl (op_assign rfl) ?_
    refine TL_nil ?_
    refine T_keepH [2, 3] [15] rfl rfl rfl rfl (by rw [hF]; rfl) ?_
    refine T_ren [(15, 1000)] rfl rfl rfl (by rw [hF]; rfl) ?_
    refine T_ret ?_
    obtain rfl := someI hm
    refine ⟨[_, _], [1000], ⟨rfl, rfl, trivial⟩, ?_, rfl, rfl, rfl, rfl⟩
    rfl
  · replace hm := condF hq hm
    refine TLE_call [] [] [] (by have hc := c_impl_compiled p0 r8 hr8; rw [hq] at hc; exact hc) (fun _ => rfl) Try.call59 rfl rfl rfl rfl rfl trivial rfl rfl rfl rfl rfl rfl rfl rfl rfl rfl rfl ?_
    refine TL_pure rfl rfl rfl rfl (op_move rfl) ?_
    refine TL_pure rfl rfl rfl rfl (op_extract rfl rfl) ?_
    refine TL_pure rfl rfl rfl rfl (op_extract rfl rfl) ?_
    refine TL_pure rfl rfl rfl rfl (op_assign rfl) ?_
    refine TL_pure rfl rfl rfl rfl (op_assign rfl) ?_
    refine TL_nil ?_
    refine T_seq ?_
    refine T_seq ?_
    refine T_region ?_
    refine TL_pure rfl rfl rfl rfl (op_move rfl) ?_
    refine TL_pure rfl rfl rfl rfl (op_not rfl) ?_
    refine TL_nil ?_
    refine T_cond_true rfl ?_
    refine T_seq ?_
    refine T_region ?_
    refine TL_pure rfl rfl rfl rfl (op_assign rfl) ?_
    refine TL_pure rfl rfl rfl rfl (op_assign rfl) ?_
    refine TL_nil ?_
    refine T_ownNil 2 67 ⟨false, true⟩ 2 rfl rfl (sz := 1) rfl rfl rfl ?_
    refine T_keepH [2, 3] [67] rfl rfl rfl rfl (by rw [hF]; rfl) ?_
    refine T_ren [(67, 1000)] rfl rfl rfl (by rw [hF]; rfl) ?_
    refine T_ret ?_
    obtain rfl := someI hm
    refine ⟨[_, _], [1000], ⟨rfl, rfl, trivial⟩, ?_, rfl, rfl, rfl, rfl⟩
    rfl
theorem c_impl_LengthOf (p0 : Program) (out : Int × Bool) (hm : m_impl_LengthOf p0 = some out) : ACall Try.prog 32 [.agg [.sl 2 (List.map a_Term p0.Pre), .sl 8 (List.map a_Stmt p0.Body), .sl 2 (List.map a_Term p0.Post)]] [] (.tup [.int .i64 out.1, .bool out.2]) [] := by
  refine ACall.intro Try.func32 rfl Try.ntmps32 rfl (fun F hF => ?_)
  unfold m_impl_LengthOf at hm
  refine T_seq ?_
  refine T_region ?_
  refine TL_box 11 rfl rfl rfl rfl rfl rfl rfl ?_
  refine TL_pure rfl rfl rfl rfl (op_assign rfl) ?_
  refine TL_pure rfl rfl rfl rfl (op_assign rfl) ?_
  refine TL_nil ?_
  refine T_seq ?_
  refine T_region ?_
  refine TL_pure rfl rfl rfl rfl (op_load_agg ag33 sz33 rfl rfl rfl) ?_
  obtain ⟨r8, hr8, hm⟩ := bindS hm
  rcases Bool.eq_false_or_eq_true r8.2 with hq | hq
  · replace hm := condT hq hm
    refine TLE_call [] [(1000, 12), (1001, 13), (1002, 14), (1003, 15), (1004, 16)] [] (by have hc := c_impl_compiled p0 r8 hr8; rw [hq] at hc; exact hc) (fun _ => rfl) Try.call59 rfl rfl rfl rfl rfl trivial rfl rfl rfl rfl rfl rfl rfl rfl rfl rfl rfl ?_
    refine TL_pure rfl rfl rfl rfl (op_move rfl) ?_
    refine TL_pure rfl rfl rfl rfl (op_extract rfl rfl) ?_
    refine TL_pure rfl rfl rfl rfl (op_extract rfl rfl) ?_
    refine TL_pure rfl rfl rfl rfl (op_assign rfl) ?_
    refine TL_pure rfl rfl rfl rfl (op_assign rfl) ?_
    refine TL_nil ?_
    refine T_seq ?_
    refine T_seq ?_
    refine T_region ?_
    refine TL_pure rfl rfl rfl rfl (op_move rfl) ?_
    refine TL_pure rfl rfl rfl rfl (op_not rfl) ?_
    refine TL_nil ?_
    refine T_cond_false rfl ?_
    refine T_skip ?_
    refine T_seq ?_
    refine T_region ?_
    refine TL_pure rfl rfl rfl rfl (op_move rfl) ?_
    obtain ⟨r14, hr14, hm⟩ := bindS hm
    refine TL_callF (c_impl_compiling_here r8.1 r14 hr14) Try.call60 rfl rfl rfl rfl rfl ?_
    refine TL_pure rfl rfl rfl rfl (op_assign rfl) ?_
    refine TL_pure rfl rfl rfl rfl (op_assign rfl) ?_
    refine TL_nil ?_
    refine T_keepH [2, 3] [] rfl rfl rfl rfl (by rw [hF]; rfl) ?_
    refine T_ret ?_
    obtain rfl := someI hm
    refine ⟨[_, _], [], ⟨rfl, rfl, trivial⟩, ?_, rfl, rfl, rfl, rfl⟩
    rfl
  · replace hm := condF hq hm
    refine TLE_call [] [] [] (by have hc := c_impl_compiled p0 r8 hr8; rw [hq] at hc; exact hc) (fun _ => rfl) Try.call59 rfl rfl rfl rfl rfl trivial rfl rfl rfl rfl rfl rfl rfl rfl rfl rfl rfl ?_
    refine TL_pure rfl rfl rfl rfl (op_move rfl) ?_
    refine TL_pure rfl rfl rfl rfl (op_extract rfl rfl) ?_
    refine TL_pure rfl rfl rfl rfl (op_extract rfl rfl) ?_
    refine TL_pure rfl rfl rfl rfl (op_assign rfl) ?_
    refine TL_pure rfl rfl rfl rfl (op_assign rfl) ?_
    refine TL_nil ?_
    refine T_seq ?_
    refine T_seq ?_
    refine T_region ?_
    refine TL_pure rfl rfl rfl rfl (op_move rfl) ?_
    refine TL_pure rfl rfl rfl rfl (op_not rfl) ?_
    refine TL_nil ?_
    refine T_cond_true rfl ?_
    refine T_seq ?_
    refine T_region ?_
    refine TL_pure rfl rfl rfl rfl (op_assign rfl) ?_
    refine TL_pure rfl rfl rfl rfl (op_assign rfl) ?_
    refine TL_nil ?_
    refine T_keepH [2, 3] [] rfl rfl rfl rfl (by rw [hF]; rfl) ?_
    refine T_ret ?_
    obtain rfl := someI hm
    refine ⟨[_, _], [], ⟨rfl, rfl, trivial⟩, ?_, rfl, rfl, rfl, rfl⟩
    rfl
theorem c_impl_isIndex (p0 : Int) (p1 : Int) (out : Bool) (hm : m_impl_isIndex p0 p1 = some out) : ACall Try.prog 61 [.int .i64 p0, .int .i64 p1] [] (.bool out) [] := by
  refine ACall.intro Try.func61 rfl Try.ntmps61 rfl (fun F hF => ?_)
  unfold m_impl_isIndex at hm
  refine T_seq ?_
  refine T_region ?_
  refine TL_pure rfl rfl rfl rfl (op_assign rfl) ?_
  refine TL_nil ?_
  refine T_seq ?_
  refine T_region ?_
  refine TL_pure rfl rfl rfl rfl (op_move rfl) ?_
  refine TL_pure rfl rfl rfl rfl (op_move rfl) ?_
  obtain ⟨r7, hr7, hm⟩ := bindS hm
  refine TL_callF (c_impl_size p1 r7 hr7) Try.call62 rfl rfl rfl rfl rfl ?_
  refine TL_pure rfl rfl rfl rfl (op_subW rfl rfl) ?_
  obtain ⟨r9, hr9, hm⟩ := bindS hm
  refine TL_callF (c_impl_within p0 (0 : Int) (w64 (r7 - (1 : Int))) r9 hr9) Try.call63 rfl rfl rfl rfl rfl ?_
  refine TL_pure rfl rfl rfl rfl (op_assign rfl) ?_
  refine TL_nil ?_
  refine T_keepH [4] [] rfl rfl rfl rfl (by rw [hF]; rfl) ?_
  refine T_ret ?_
  obtain rfl := someI hm
  refine ⟨[_], [], ⟨rfl, trivial⟩, ?_, rfl, rfl, rfl, rfl⟩
  rfl
theorem c_impl_OriginOf (p0 : Program) (p1 : Int) (out : Int × Bool) (hm : m_impl_OriginOf p0 p1 = some out) : ACall Try.prog 33 [.agg [.sl 2 (List.map a_Term p0.Pre), .sl 8 (List.map a_Stmt p0.Body), .sl 2 (List.map a_Term p0.Post)], .int .i64 p1] [] (.tup [.int .i64 out.1, .bool out.2]) [] := by
  refine ACall.intro Try.func33 rfl Try.ntmps33 rfl (fun F hF => ?_)
  unfold m_impl_OriginOf at hm
  refine T_seq ?_
  refine T_region ?_
  refine TL_box 11 rfl rfl rfl rfl rfl rfl rfl ?_
  refine TL_pure rfl rfl rfl rfl (op_assign rfl) ?_
  refine TL_pure rfl rfl rfl rfl (op_assign rfl) ?_
  refine TL_nil ?_
  refine T_seq ?_
  refine T_region ?_
  refine TL_pure rfl rfl rfl rfl (op_load_agg ag33 sz33 rfl rfl rfl) ?_
  obtain ⟨r12, hr12, hm⟩ := bindS hm
  rcases Bool.eq_false_or_eq_true r12.2 with hq | hq
  · replace hm := condT hq hm
    refine TLE_call [] [(1000, 12), (1001, 13), (1002, 14), (1003, 15), (1004, 16)] [] (by have hc := c_impl_compiled p0 r12 hr12; rw [hq] at hc; exact hc) (fun _ => rfl) Try.call59 rfl rfl rfl rfl rfl trivial rfl rfl rfl rfl rfl rfl rfl rfl rfl rfl rfl ?_
    refine TL_pure rfl rfl rfl rfl (op_move rfl) ?_
    refine TL_pure rfl rfl rfl rfl (op_extract rfl rfl) ?_
    refine TL_pure rfl rfl rfl rfl (op_extract rfl rfl) ?_
    refine TL_pure rfl rfl rfl rfl (op_assign rfl) ?_
    refine TL_pure rfl rfl rfl rfl (op_assign rfl) ?_
    refine TL_nil ?_
    refine T_seq ?_
    refine T_seq ?_
    refine T_region ?_
    refine TL_pure rfl rfl rfl rfl (op_move rfl) ?_
    refine TL_pure rfl rfl rfl rfl (op_not rfl) ?_
    refine TL_pure rfl rfl rfl rfl (op_move rfl) ?_
    refine TL_want rfl rfl ?_
    refine TL_pure rfl rfl rfl rfl (op_move rfl) ?_
    refine TL_want rfl rfl ?_
    refine TL_pure rfl rfl rfl rfl (op_move rfl) ?_
    refine TL_want rfl rfl ?_
    refine TL_pure rfl rfl rfl rfl (op_nilCheck rfl rfl) ?_
    refine TL_want rfl rfl ?_
    refine TL_pure rfl rfl rfl rfl (op_fieldAddr fa114_0 rfl rfl) ?_
    refine TL_want rfl rfl ?_
    refine TL_pure rfl rfl rfl rfl (op_load_one ag60 rfl rfl) ?_
    refine TL_want rfl rfl ?_
    refine TL_pure rfl rfl rfl rfl (op_lenO Try.underlying60 rfl rfl (List.length_map _)) ?_
    refine TL_fact (fun _ _ _ hr => RelP.owLen (id := 13) rfl hr) (fun hlen23 => ?_)
    rw [List.length_map] at hlen23
    refine TL_want rfl rfl ?_
    obtain ⟨r24, hr24, hm⟩ := bindS hm
    refine TL_callF (c_impl_isIndex p1 (r12.1.code.length : Int) r24 hr24) Try.call61 rfl rfl rfl rfl rfl ?_
    refine TL_want rfl rfl ?_
    refine TL_pure rfl rfl rfl rfl (op_not rfl) ?_
    refine TL_pure rfl rfl rfl rfl (op_pick_false rfl rfl) ?_
    refine TL_nil ?_
    refine T_cond rfl (fun hq => ?_) (fun hq => ?_)
    · replace hm := condT hq hm
      refine T_seq ?_
      refine T_region ?_
      refine TL_pure rfl rfl rfl rfl (op_assign rfl) ?_
      refine TL_pure rfl rfl rfl rfl (op_assign rfl) ?_
      refine TL_nil ?_
      refine T_keepH [4, 5] [] rfl rfl rfl rfl (by rw [hF]; rfl) ?_
      refine T_ret ?_
      obtain rfl := someI hm
      refine ⟨[_, _], [], ⟨rfl, rfl, trivial⟩, ?_, rfl, rfl, rfl, rfl⟩
      rfl
    · replace hm := condF hq hm
      refine T_skip ?_
      refine T_seq ?_
      refine T_seq ?_
      refine T_region ?_
      refine TL_pure rfl rfl rfl rfl (op_move rfl) ?_
      refine TL_pure rfl rfl rfl rfl (op_move rfl) ?_
      obtain ⟨r29, hr29, hm⟩ := bindS hm
      refine TL_callF (c_impl_compiling_here r12.1 r29 hr29) Try.call60 rfl rfl rfl rfl rfl ?_
      refine TL_pure rfl rfl rfl rfl (op_subW rfl rfl) ?_
      refine TL_pure rfl rfl rfl rfl (op_eql rfl rfl) ?_
      refine TL_nil ?_
      refine T_cond rfl (fun hq => ?_) (fun hq => ?_)
      · replace hm := condT hq hm
        refine T_seq ?_
        refine T_region ?_
        refine TL_pure rfl rfl rfl rfl (op_fieldAddr fa33_1 rfl rfl) ?_
        refine TL_pure rfl rfl rfl rfl (op_load_one ag31 rfl rfl) ?_
        refine TL_pure rfl rfl rfl rfl (op_lenT Try.underlying31 rfl (List.length_map _)) ?_
        refine TL_fact (fun _ _ _ hr => RelP.slLen (i := 33) rfl hr) (fun hlen34 => ?_)
        rw [List.length_map] at hlen34
        obtain ⟨r35, hr35, hm⟩ := bindS hm
        refine TL_callF (c_impl_size (p0.Body.length : Int) r35 hr35) Try.call62 rfl rfl rfl rfl rfl ?_
        refine TL_pure rfl rfl rfl rfl (op_assign rfl) ?_
        refine TL_pure rfl rfl rfl rfl (op_assign rfl) ?_
        refine TL_nil ?_
        refine T_keepH [4, 5] [] rfl rfl rfl rfl (by rw [hF]; rfl) ?_
        refine T_ret ?_
        obtain rfl := someI hm
        refine ⟨[_, _], [], ⟨rfl, rfl, trivial⟩, ?_, rfl, rfl, rfl, rfl⟩
        rfl
      · replace hm := condF hq hm
        refine T_skip ?_
        refine T_seq ?_
        refine T_region ?_
        refine TL_pure rfl rfl rfl rfl (op_assign rfl) ?_
        refine TL_nil ?_
        refine T_seq ?_
        refine T_seq ?_
        refine T_region ?_
        refine TL_pure rfl rfl rfl rfl (op_move rfl) ?_
        refine TL_pure rfl rfl rfl rfl (op_nilCheck rfl rfl) ?_
        refine TL_pure rfl rfl rfl rfl (op_fieldAddr fa114_2 rfl rfl) ?_
        refine TL_pure rfl rfl rfl rfl (op_load_one ag27 rfl rfl) ?_
        refine TL_pure rfl rfl rfl rfl (op_lenO Try.underlying27 rfl rfl (List.length_map _)) ?_
        refine TL_fact (fun _ _ _ hr => RelP.owLen (id := 15) rfl hr) (fun hlen40 => ?_)
        rw [List.length_map] at hlen40
        refine TL_pure rfl rfl rfl rfl (op_move rfl) ?_
        refine TL_nil ?_
        refine T_block ?_
        refine T_keepH [1, 6, 8, 40, 41] [12, 13, 14, 15, 16] rfl rfl rfl rfl (by rw [hF]; rfl) ?_
        refine T_loop ?_
        obtain ⟨u0, hl0, hm⟩ := bindS hm
        refine TR_forL2 r12.1.from_ (m_impl_OriginOf_L0 p1 r12) (fun (s0 : Int) => s0) (fun n0 (s0 : Int) => ⟨[(1, .int .i64 p1), (6, .ptr 12 0 0), (8, .int .i64 s0), (40, .int .i64 (r12.1.from_.length : Int)), (41, .int .i64 (n0 : Int))], [(12, .box [.ow 13, .ow 14, .ow 15, .ow 16]), (13, .arr ⟨false, true⟩ 2 172 (List.map a_Instr r12.1.code)), (14, .arr ⟨false, true⟩ 2 71 (List.map a_Point r12.1.points)), (15, .arr ⟨false, true⟩ 1 2 (List.map a_i64 r12.1.from_)), (16, .arr ⟨false, true⟩ 1 2 (List.map a_i64 r12.1.to))]⟩) (fun u0 => .exit 0) (fun u0 => ⟨[(8, .int .i64 u0)], []⟩) (fun u0 => m_impl_OriginOf_A0 u0 = some out) hl0 hm (fun u0 hm => ?_) (fun hx0 s0 hm => ?_) (fun hx0 n0 x0 s0 c0 hxn0 hlt0 hm hc0 => ?_)
        · unfold m_impl_OriginOf_A0 at hm
          refine T_seq ?_
          refine T_region ?_
          refine TL_pure rfl rfl rfl rfl (op_move rfl) ?_
          refine TL_pure rfl rfl rfl rfl (op_assign rfl) ?_
          refine TL_pure rfl rfl rfl rfl (op_assign rfl) ?_
          refine TL_nil ?_
          refine T_keepH [4, 5] [] rfl rfl rfl rfl (by rw [hF]; rfl) ?_
          refine T_ret ?_
          obtain rfl := someI hm
          refine ⟨[_, _], [], ⟨rfl, rfl, trivial⟩, ?_, rfl, rfl, rfl, rfl⟩
          rfl
        · refine T_seq ?_
          refine T_region ?_
          refine TL_pure rfl rfl rfl rfl (op_lss rfl rfl) ?_
          refine TL_nil ?_
          refine T_seq ?_
          refine T_if_false rfl (decide_eq_false (by simp)) ?_
          refine T_keepH [8] [] rfl rfl rfl rfl (by rw [hF]; rfl) ?_
          refine T_exit ?_
          exact hx0 s0 hm
        · unfold m_impl_OriginOf_L0 at hm
          refine T_seq ?_
          refine T_region ?_
          refine TL_pure rfl rfl rfl rfl (op_lss rfl rfl) ?_
          refine TL_nil ?_
          refine T_seq ?_
          refine T_if_true rfl (decide_eq_true (Int.ofNat_lt.2 hlt0)) ?_
          refine T_skip ?_
          refine T_seq ?_
          refine T_block ?_
          refine T_seq ?_
          refine T_region ?_
          refine TL_pure rfl rfl rfl rfl (op_move rfl) ?_
          refine TL_pure rfl rfl rfl rfl (op_assign rfl) ?_
          refine TL_nil ?_
          refine T_seq ?_
          refine T_drawZ [] mix (by kernel_rfl) rfl ?_
          obtain ⟨x57, hx57, hm⟩ := bindS hm
          obtain ⟨r60, hr60, hm⟩ := bindS hm
          refine TZ_pure 0 (by kernel_rfl) rfl rfl rfl rfl rfl (op_move rfl) ?_
          refine TZ_pure 1 (by kernel_rfl) rfl rfl rfl rfl rfl (op_move rfl) ?_
          refine TZ_pure 2 (by kernel_rfl) rfl rfl rfl rfl rfl (op_nilCheck rfl rfl) ?_
          refine TZ_pure 3 (by kernel_rfl) rfl rfl rfl rfl rfl (op_fieldAddr fa114_2 rfl rfl) ?_
          refine TZ_pure 4 (by kernel_rfl) rfl rfl rfl rfl rfl (op_load_one ag27 rfl rfl) ?_
          refine TZ_pure 5 (by kernel_rfl) rfl rfl rfl rfl rfl (op_move rfl) ?_
          refine TZ_pure 6 (by kernel_rfl) rfl rfl rfl rfl rfl (op_index_ow el27 rfl rfl rfl rfl (by simpa using (List.getElem?_eq_some_iff.1 hxn0).1)) ?_
          refine TZ_pure 7 (by kernel_rfl) rfl rfl rfl rfl rfl (op_loadD1 ag2 rfl rfl (hxn0) rfl rfl rfl rfl) ?_
          refine TZ_pure 8 (by kernel_rfl) rfl rfl rfl rfl rfl (op_move rfl) ?_
          refine TZ_pure 9 (by kernel_rfl) rfl rfl rfl rfl rfl (op_nilCheck rfl rfl) ?_
          refine TZ_pure 10 (by kernel_rfl) rfl rfl rfl rfl rfl (op_fieldAddr fa114_3 rfl rfl) ?_
          refine TZ_pure 11 (by kernel_rfl) rfl rfl rfl rfl rfl (op_load_one ag27 rfl rfl) ?_
          refine TZ_pure 12 (by kernel_rfl) rfl rfl rfl rfl rfl (op_move rfl) ?_
          refine TZ_pure 13 (by kernel_rfl) rfl rfl rfl rfl rfl (op_indexO el27 rfl rfl rfl hx57) ?_
          refine TZ_pure 14 (by kernel_rfl) rfl rfl rfl rfl rfl (op_loadD1 ag2 rfl rfl ((getI_spec hx57).2) rfl rfl rfl rfl) ?_
          refine TZ_pure 15 (by kernel_rfl) rfl rfl rfl rfl rfl (op_subW rfl rfl) ?_
          refine TZ_one 16 (by kernel_rfl) rfl ?_
          refine TL_callF (c_impl_within p1 x0 (w64 (x57 - (1 : Int))) r60 hr60) Try.call63 rfl rfl rfl rfl rfl ?_
          refine TL_nil ?_
          refine TZ_done (by kernel_rfl) ?_
          refine T_cond rfl (fun hq => ?_) (fun hq => ?_)
          · replace hm := condT hq hm
            refine T_region ?_
            refine TL_pure rfl rfl rfl rfl (op_move rfl) ?_
            refine TL_pure rfl rfl rfl rfl (op_assign rfl) ?_
            refine TL_nil ?_
            refine T_region ?_
            refine TL_pure rfl rfl rfl rfl (op_addN rfl rfl (Nat.lt_of_lt_of_le hlt0 hlen40)) ?_
            refine TL_pure rfl rfl rfl rfl (op_move rfl) ?_
            refine TL_nil ?_
            refine TR_keepH [1, 6, 8, 40, 41] [12, 13, 14, 15, 16] rfl rfl rfl rfl (by rw [hF]; rfl) ?_
            obtain rfl := someI hm
            have hn := CtlOK_next hc0
            exact hn _ rfl
          · replace hm := condF hq hm
            refine T_skip ?_
            refine T_region ?_
            refine TL_pure rfl rfl rfl rfl (op_addN rfl rfl (Nat.lt_of_lt_of_le hlt0 hlen40)) ?_
            refine TL_pure rfl rfl rfl rfl (op_move rfl) ?_
            refine TL_nil ?_
            refine TR_keepH [1, 6, 8, 40, 41] [12, 13, 14, 15, 16] rfl rfl rfl rfl (by rw [hF]; rfl) ?_
            obtain rfl := someI hm
            have hn := CtlOK_next hc0
            exact hn _ rfl
  · replace hm := condF hq hm
    refine TLE_call [] [] [] (by have hc := c_impl_compiled p0 r12 hr12; rw [hq] at hc; exact hc) (fun _ => rfl) Try.call59 rfl rfl rfl rfl rfl trivial rfl rfl rfl rfl rfl rfl rfl rfl rfl rfl rfl ?_
    refine TL_pure rfl rfl rfl rfl (op_move rfl) ?_
    refine TL_pure rfl rfl rfl rfl (op_extract rfl rfl) ?_
    refine TL_pure rfl rfl rfl rfl (op_extract rfl rfl) ?_
    refine TL_pure rfl rfl rfl rfl (op_assign rfl) ?_
    refine TL_pure rfl rfl rfl rfl (op_assign rfl) ?_
    refine TL_nil ?_
    refine T_seq ?_
    refine T_seq ?_
    refine T_region ?_
    refine TL_pure rfl rfl rfl rfl (op_move rfl) ?_
    refine TL_pure rfl rfl rfl rfl (op_not rfl) ?_
    refine TL_pure rfl rfl rfl rfl (op_move rfl) ?_
    refine TL_pass rfl rfl rfl rfl rfl rfl rfl ?_
    refine TL_pass rfl rfl rfl rfl rfl rfl rfl ?_
    refine TL_pass rfl rfl rfl rfl rfl rfl rfl ?_
    refine TL_pass rfl rfl rfl rfl rfl rfl rfl ?_
    refine TL_pass rfl rfl rfl rfl rfl rfl rfl ?_
    refine TL_pass rfl rfl rfl rfl rfl rfl rfl ?_
    refine TL_pass rfl rfl rfl rfl rfl rfl rfl ?_
    refine TL_pass rfl rfl rfl rfl rfl rfl rfl ?_
    refine TL_pure rfl rfl rfl rfl (op_pick_true rfl rfl) ?_
    refine TL_nil ?_
    refine T_cond_true rfl ?_
    refine T_seq ?_
    refine T_region ?_
    refine TL_pure rfl rfl rfl rfl (op_assign rfl) ?_
    refine TL_pure rfl rfl rfl rfl (op_assign rfl) ?_
    refine TL_nil ?_
    refine T_keepH [4, 5] [] rfl rfl rfl rfl (by rw [hF]; rfl) ?_
    refine T_ret ?_
    obtain rfl := someI hm
    refine ⟨[_, _], [], ⟨rfl, rfl, trivial⟩, ?_, rfl, rfl, rfl, rfl⟩
    rfl
theorem c_impl_isPlace (p0 : Int) (out : Bool) (hm : m_impl_isPlace p0 = some out) : ACall Try.prog 133 [.int .i64 p0] [] (.bool out) [] := by
  refine ACall.intro Try.func133 rfl Try.ntmps133 rfl (fun F hF => ?_)
  unfold m_impl_isPlace at hm
  refine T_seq ?_
  refine T_region ?_
  refine TL_pure rfl rfl rfl rfl (op_assign rfl) ?_
  refine TL_nil ?_
  refine T_seq ?_
  refine T_region ?_
  refine TL_pure rfl rfl rfl rfl (op_move rfl) ?_
  obtain ⟨r4, hr4, hm⟩ := bindS hm
  refine TL_callF (c_impl_within p0 (0 : Int) (79 : Int) r4 hr4) Try.call63 rfl rfl rfl rfl rfl ?_
  refine TL_pure rfl rfl rfl rfl (op_assign rfl) ?_
  refine TL_nil ?_
  refine T_keepH [2] [] rfl rfl rfl rfl (by rw [hF]; rfl) ?_
  refine T_ret ?_
  obtain rfl := someI hm
  refine ⟨[_], [], ⟨rfl, trivial⟩, ?_, rfl, rfl, rfl, rfl⟩
  rfl
theorem c_impl_ValidInstr (p0 : Instr) (out : Bool) (hm : m_impl_ValidInstr p0 = some out) : ACall Try.prog 125 [.agg [.int .i64 p0.Op, .int .i64 p0.Arg]] [] (.bool out) [] := by
  refine ACall.intro Try.func125 rfl Try.ntmps125 rfl (fun F hF => ?_)
  unfold m_impl_ValidInstr at hm
  refine T_seq ?_
  refine T_region ?_
  refine TL_box 11 rfl rfl rfl rfl rfl rfl rfl ?_
  refine TL_pure rfl rfl rfl rfl (op_assign rfl) ?_
  refine TL_nil ?_
  refine T_seq ?_
  refine T_seq ?_
  refine T_region ?_
  refine TL_pure rfl rfl rfl rfl (op_fieldAddr fa172_0 rfl rfl) ?_
  refine TL_pure rfl rfl rfl rfl (op_load_one ag2 rfl rfl) ?_
  refine TL_nil ?_
  refine T_block ?_
  refine T_join (fun (j0 : Bool) => ⟨[(1, .ptr 11 0 0), (4, .int .i64 p0.Op), (5, .bool j0)], [(11, .box [.int .i64 p0.Op, .int .i64 p0.Arg])]⟩) (fun j0 => m_impl_ValidInstr_J0 p0 j0 = some out) (fun j0 hm => ?_) (fun hj0 => ?_)
  · unfold m_impl_ValidInstr_J0 at hm
    refine T_cond rfl (fun hq => ?_) (fun hq => ?_)
    · replace hm := condT hq hm
      refine T_seq ?_
      refine T_region ?_
      refine TL_pure rfl rfl rfl rfl (op_fieldAddr fa172_1 rfl rfl) ?_
      refine TL_pure rfl rfl rfl rfl (op_load_one ag2 rfl rfl) ?_
      obtain ⟨r10, hr10, hm⟩ := bindS hm
      refine TL_callF (c_impl_isCoeff p0.Arg r10 hr10) Try.call131 rfl rfl rfl rfl rfl ?_
      refine TL_pure rfl rfl rfl rfl (op_assign rfl) ?_
      refine TL_nil ?_
      refine T_keepH [2] [] rfl rfl rfl rfl (by rw [hF]; rfl) ?_
      refine T_ret ?_
      obtain rfl := someI hm
      refine ⟨[_], [], ⟨rfl, trivial⟩, ?_, rfl, rfl, rfl, rfl⟩
      rfl
    · replace hm := condF hq hm
      refine T_join (fun (j1 : Bool) => ⟨[(1, .ptr 11 0 0), (4, .int .i64 p0.Op), (11, .bool j1)], [(11, .box [.int .i64 p0.Op, .int .i64 p0.Arg])]⟩) (fun j1 => m_impl_ValidInstr_J1 p0 j1 = some out) (fun j1 hm => ?_) (fun hj1 => ?_)
      · unfold m_impl_ValidInstr_J1 at hm
        refine T_cond rfl (fun hq => ?_) (fun hq => ?_)
        · replace hm := condT hq hm
          refine T_seq ?_
          refine T_region ?_
          refine TL_pure rfl rfl rfl rfl (op_fieldAddr fa172_1 rfl rfl) ?_
          refine TL_pure rfl rfl rfl rfl (op_load_one ag2 rfl rfl) ?_
          obtain ⟨r16, hr16, hm⟩ := bindS hm
          refine TL_callF (c_impl_isVar p0.Arg r16 hr16) Try.call129 rfl rfl rfl rfl rfl ?_
          refine TL_pure rfl rfl rfl rfl (op_assign rfl) ?_
          refine TL_nil ?_
          refine T_keepH [2] [] rfl rfl rfl rfl (by rw [hF]; rfl) ?_
          refine T_ret ?_
          obtain rfl := someI hm
          refine ⟨[_], [], ⟨rfl, trivial⟩, ?_, rfl, rfl, rfl, rfl⟩
          rfl
        · replace hm := condF hq hm
          refine T_join (fun (j2 : Bool) => ⟨[(1, .ptr 11 0 0), (4, .int .i64 p0.Op), (17, .bool j2)], [(11, .box [.int .i64 p0.Op, .int .i64 p0.Arg])]⟩) (fun j2 => m_impl_ValidInstr_J2 p0 j2 = some out) (fun j2 hm => ?_) (fun hj2 => ?_)
          · unfold m_impl_ValidInstr_J2 at hm
            refine T_cond rfl (fun hq => ?_) (fun hq => ?_)
            · replace hm := condT hq hm
              refine T_seq ?_
              refine T_region ?_
              refine TL_pure rfl rfl rfl rfl (op_fieldAddr fa172_1 rfl rfl) ?_
              refine TL_pure rfl rfl rfl rfl (op_load_one ag2 rfl rfl) ?_
              obtain ⟨r22, hr22, hm⟩ := bindS hm
              refine TL_callF (c_impl_isPlace p0.Arg r22 hr22) Try.call133 rfl rfl rfl rfl rfl ?_
              refine TL_pure rfl rfl rfl rfl (op_assign rfl) ?_
              refine TL_nil ?_
              refine T_keepH [2] [] rfl rfl rfl rfl (by rw [hF]; rfl) ?_
              refine T_ret ?_
              obtain rfl := someI hm
              refine ⟨[_], [], ⟨rfl, trivial⟩, ?_, rfl, rfl, rfl, rfl⟩
              rfl
            · replace hm := condF hq hm
              refine T_seq ?_
              refine T_region ?_
              refine TL_pure rfl rfl rfl rfl (op_eql rfl rfl) ?_
              refine TL_pure rfl rfl rfl rfl (op_assign rfl) ?_
              refine TL_nil ?_
              refine T_cond rfl (fun hq => ?_) (fun hq => ?_)
              · replace hm := condT hq hm
                refine T_seq ?_
                refine T_region ?_
                refine TL_pure rfl rfl rfl rfl (op_fieldAddr fa172_1 rfl rfl) ?_
                refine TL_pure rfl rfl rfl rfl (op_load_one ag2 rfl rfl) ?_
                obtain ⟨r27, hr27, hm⟩ := bindS hm
                refine TL_callF (c_impl_isEvent p0.Arg r27 hr27) Try.call130 rfl rfl rfl rfl rfl ?_
                refine TL_pure rfl rfl rfl rfl (op_assign rfl) ?_
                refine TL_nil ?_
                refine T_keepH [2] [] rfl rfl rfl rfl (by rw [hF]; rfl) ?_
                refine T_ret ?_
                obtain rfl := someI hm
                refine ⟨[_], [], ⟨rfl, trivial⟩, ?_, rfl, rfl, rfl, rfl⟩
                rfl
              · replace hm := condF hq hm
                refine T_join (fun (j3 : Bool) => ⟨[(1, .ptr 11 0 0), (28, .bool j3)], [(11, .box [.int .i64 p0.Op, .int .i64 p0.Arg])]⟩) (fun j3 => m_impl_ValidInstr_J3 p0 j3 = some out) (fun j3 hm => ?_) (fun hj3 => ?_)
                · unfold m_impl_ValidInstr_J3 at hm
                  refine T_cond rfl (fun hq => ?_) (fun hq => ?_)
                  · replace hm := condT hq hm
                    refine T_seq ?_
                    refine T_region ?_
                    refine TL_pure rfl rfl rfl rfl (op_fieldAddr fa172_1 rfl rfl) ?_
                    refine TL_pure rfl rfl rfl rfl (op_load_one ag2 rfl rfl) ?_
                    refine TL_pure rfl rfl rfl rfl (op_eql rfl rfl) ?_
                    refine TL_pure rfl rfl rfl rfl (op_assign rfl) ?_
                    refine TL_nil ?_
                    refine T_keepH [2] [] rfl rfl rfl rfl (by rw [hF]; rfl) ?_
                    refine T_ret ?_
                    obtain rfl := someI hm
                    refine ⟨[_], [], ⟨rfl, trivial⟩, ?_, rfl, rfl, rfl, rfl⟩
                    rfl
                  · replace hm := condF hq hm
                    refine T_skip ?_
                    refine T_seq ?_
                    refine T_region ?_
                    refine TL_pure rfl rfl rfl rfl (op_assign rfl) ?_
                    refine TL_nil ?_
                    refine T_keepH [2] [] rfl rfl rfl rfl (by rw [hF]; rfl) ?_
                    refine T_ret ?_
                    obtain rfl := someI hm
                    refine ⟨[_], [], ⟨rfl, trivial⟩, ?_, rfl, rfl, rfl, rfl⟩
                    rfl
                · refine T_seq ?_
                  refine T_region ?_
                  refine TL_pure rfl rfl rfl rfl (op_eql rfl rfl) ?_
                  refine TL_pure rfl rfl rfl rfl (op_assign rfl) ?_
                  refine TL_nil ?_
                  refine T_cond rfl (fun hq => ?_) (fun hq => ?_)
                  · replace hm := condT hq hm
                    refine T_skip ?_
                    refine T_keepH [1, 28] [11] rfl rfl rfl rfl (by rw [hF]; rfl) ?_
                    exact hj3 (decide (p0.Op = (3 : Int))) hm
                  · replace hm := condF hq hm
                    refine T_seq ?_
                    refine T_region ?_
                    refine TL_pure rfl rfl rfl rfl (op_eql rfl rfl) ?_
                    refine TL_pure rfl rfl rfl rfl (op_assign rfl) ?_
                    refine TL_nil ?_
                    refine T_cond rfl (fun hq => ?_) (fun hq => ?_)
                    · replace hm := condT hq hm
                      refine T_skip ?_
                      refine T_keepH [1, 28] [11] rfl rfl rfl rfl (by rw [hF]; rfl) ?_
                      exact hj3 (decide (p0.Op = (7 : Int))) hm
                    · replace hm := condF hq hm
                      refine T_seq ?_
                      refine T_region ?_
                      refine TL_pure rfl rfl rfl rfl (op_eql rfl rfl) ?_
                      refine TL_pure rfl rfl rfl rfl (op_assign rfl) ?_
                      refine TL_nil ?_
                      refine T_cond rfl (fun hq => ?_) (fun hq => ?_)
                      · replace hm := condT hq hm
                        refine T_skip ?_
                        refine T_keepH [1, 28] [11] rfl rfl rfl rfl (by rw [hF]; rfl) ?_
                        exact hj3 (decide (p0.Op = (8 : Int))) hm
                      · replace hm := condF hq hm
                        refine T_seq ?_
                        refine T_region ?_
                        refine TL_pure rfl rfl rfl rfl (op_eql rfl rfl) ?_
                        refine TL_pure rfl rfl rfl rfl (op_assign rfl) ?_
                        refine TL_nil ?_
                        refine T_cond rfl (fun hq => ?_) (fun hq => ?_)
                        · replace hm := condT hq hm
                          refine T_skip ?_
                          refine T_keepH [1, 28] [11] rfl rfl rfl rfl (by rw [hF]; rfl) ?_
                          exact hj3 (decide (p0.Op = (10 : Int))) hm
                        · replace hm := condF hq hm
                          refine T_region ?_
                          refine TL_pure rfl rfl rfl rfl (op_eql rfl rfl) ?_
                          refine TL_pure rfl rfl rfl rfl (op_assign rfl) ?_
                          refine TL_nil ?_
                          refine T_keepH [1, 28] [11] rfl rfl rfl rfl (by rw [hF]; rfl) ?_
                          exact hj3 (decide (p0.Op = (11 : Int))) hm
          · refine T_seq ?_
            refine T_region ?_
            refine TL_pure rfl rfl rfl rfl (op_eql rfl rfl) ?_
            refine TL_pure rfl rfl rfl rfl (op_assign rfl) ?_
            refine TL_nil ?_
            refine T_cond rfl (fun hq => ?_) (fun hq => ?_)
            · replace hm := condT hq hm
              refine T_skip ?_
              refine T_keepH [1, 4, 17] [11] rfl rfl rfl rfl (by rw [hF]; rfl) ?_
              exact hj2 (decide (p0.Op = (5 : Int))) hm
            · replace hm := condF hq hm
              refine T_region ?_
              refine TL_pure rfl rfl rfl rfl (op_eql rfl rfl) ?_
              refine TL_pure rfl rfl rfl rfl (op_assign rfl) ?_
              refine TL_nil ?_
              refine T_keepH [1, 4, 17] [11] rfl rfl rfl rfl (by rw [hF]; rfl) ?_
              exact hj2 (decide (p0.Op = (6 : Int))) hm
      · refine T_seq ?_
        refine T_region ?_
        refine TL_pure rfl rfl rfl rfl (op_eql rfl rfl) ?_
        refine TL_pure rfl rfl rfl rfl (op_assign rfl) ?_
        refine TL_nil ?_
        refine T_cond rfl (fun hq => ?_) (fun hq => ?_)
        · replace hm := condT hq hm
          refine T_skip ?_
          refine T_keepH [1, 4, 11] [11] rfl rfl rfl rfl (by rw [hF]; rfl) ?_
          exact hj1 (decide (p0.Op = (1 : Int))) hm
        · replace hm := condF hq hm
          refine T_region ?_
          refine TL_pure rfl rfl rfl rfl (op_eql rfl rfl) ?_
          refine TL_pure rfl rfl rfl rfl (op_assign rfl) ?_
          refine TL_nil ?_
          refine T_keepH [1, 4, 11] [11] rfl rfl rfl rfl (by rw [hF]; rfl) ?_
          exact hj1 (decide (p0.Op = (2 : Int))) hm
  · refine T_seq ?_
    refine T_region ?_
    refine TL_pure rfl rfl rfl rfl (op_eql rfl rfl) ?_
    refine TL_pure rfl rfl rfl rfl (op_assign rfl) ?_
    refine TL_nil ?_
    refine T_cond rfl (fun hq => ?_) (fun hq => ?_)
    · replace hm := condT hq hm
      refine T_skip ?_
      refine T_keepH [1, 4, 5] [11] rfl rfl rfl rfl (by rw [hF]; rfl) ?_
      exact hj0 (decide (p0.Op = (0 : Int))) hm
    · replace hm := condF hq hm
      refine T_region ?_
      refine TL_pure rfl rfl rfl rfl (op_eql rfl rfl) ?_
      refine TL_pure rfl rfl rfl rfl (op_assign rfl) ?_
      refine TL_nil ?_
      refine T_keepH [1, 4, 5] [11] rfl rfl rfl rfl (by rw [hF]; rfl) ?_
      exact hj0 (decide (p0.Op = (4 : Int))) hm
theorem c_impl_ValidCode_1 (p0 : Instr) (out : Bool) (hm : m_impl_ValidCode_1 p0 = some out) : ACall Try.prog 124 [.agg [.int .i64 p0.Op, .int .i64 p0.Arg]] [] (.bool out) [] := by
  refine ACall.intro Try.func124 rfl Try.ntmps124 rfl (fun F hF => ?_)
  unfold m_impl_ValidCode_1 at hm
  refine T_seq ?_
  refine T_region ?_
  refine TL_box 11 rfl rfl rfl rfl rfl rfl rfl ?_
  refine TL_pure rfl rfl rfl rfl (op_assign rfl) ?_
  refine TL_nil ?_
  refine T_seq ?_
  refine T_region ?_
  refine TL_pure rfl rfl rfl rfl (op_load_agg ag172 sz172 rfl rfl rfl) ?_
  obtain ⟨r4, hr4, hm⟩ := bindS hm
  refine TL_callF (c_impl_ValidInstr p0 r4 hr4) Try.call125 rfl rfl rfl rfl rfl ?_
  refine TL_pure rfl rfl rfl rfl (op_not rfl) ?_
  refine TL_pure rfl rfl rfl rfl (op_assign rfl) ?_
  refine TL_nil ?_
  refine T_keepH [2] [] rfl rfl rfl rfl (by rw [hF]; rfl) ?_
  refine T_ret ?_
  obtain rfl := someI hm
  refine ⟨[_], [], ⟨rfl, trivial⟩, ?_, rfl, rfl, rfl, rfl⟩
  rfl
theorem c_slices_IndexFunc_impl_Instr_impl_Instr_fValidCode_1 (p0 : List Instr) (out : Int) (hm : m_slices_IndexFunc_impl_Instr_impl_Instr_fValidCode_1 p0 = some out) : ACall Try.prog 132 [.sl 2 (List.map a_Instr p0), .fn (.func 124) [] []] [] (.int .i64 out) [] := by
  refine ACall.intro Try.func132 rfl Try.ntmps132 rfl (fun F hF => ?_)
  unfold m_slices_IndexFunc_impl_Instr_impl_Instr_fValidCode_1 at hm
  refine T_seq ?_
  refine T_region ?_
  refine TL_pure rfl rfl rfl rfl (op_assign rfl) ?_
  refine TL_nil ?_
  refine T_seq ?_
  refine T_seq ?_
  refine T_region ?_
  refine TL_pure rfl rfl rfl rfl (op_move rfl) ?_
  refine TL_pure rfl rfl rfl rfl (op_lenT Try.underlying60 rfl (List.length_map _)) ?_
  refine TL_fact (fun _ _ _ hr => RelP.slLen (i := 6) rfl hr) (fun hlen7 => ?_)
  rw [List.length_map] at hlen7
  refine TL_pure rfl rfl rfl rfl (op_move rfl) ?_
  refine TL_nil ?_
  refine T_block ?_
  refine T_keepH [0, 1, 7, 8] [] rfl rfl rfl rfl (by rw [hF]; rfl) ?_
  refine T_loop ?_
  obtain ⟨u0, hl0, hm⟩ := bindS hm
  refine TR_forL2 p0 (m_slices_IndexFunc_impl_Instr_impl_Instr_fValidCode_1_L0) (fun (s0 : Unit) => (.inl ())) (fun n0 (s0 : Unit) => ⟨[(0, .sl 2 (List.map a_Instr p0)), (1, .fn (.func 124) [] []), (7, .int .i64 (p0.length : Int)), (8, .int .i64 (n0 : Int))], []⟩) (fun u0 => match u0 with | .inl u0 => .exit 0 | .inr u0 => .ret) (fun u0 => match u0 with | .inl u0 => ⟨[], []⟩ | .inr u0 => ⟨[(4, .int .i64 u0)], []⟩) (fun u0 => m_slices_IndexFunc_impl_Instr_impl_Instr_fValidCode_1_A0 u0 = some out) hl0 hm (fun u0 hm => ?_) (fun hx0 s0 hm => ?_) (fun hx0 n0 x0 s0 c0 hxn0 hlt0 hm hc0 => ?_)
  · rcases u0 with u0 | u0
    · unfold m_slices_IndexFunc_impl_Instr_impl_Instr_fValidCode_1_A0 at hm
      refine T_seq ?_
      refine T_region ?_
      refine TL_pure rfl rfl rfl rfl (op_assign rfl) ?_
      refine TL_nil ?_
      refine T_keepH [4] [] rfl rfl rfl rfl (by rw [hF]; rfl) ?_
      refine T_ret ?_
      obtain rfl := someI hm
      refine ⟨[_], [], ⟨rfl, trivial⟩, ?_, rfl, rfl, rfl, rfl⟩
      rfl
    · unfold m_slices_IndexFunc_impl_Instr_impl_Instr_fValidCode_1_A0 at hm
      obtain rfl := someI hm
      refine ⟨[_], [], ⟨rfl, trivial⟩, ?_, rfl, rfl, rfl, rfl⟩
      rfl
  · refine T_seq ?_
    refine T_region ?_
    refine TL_pure rfl rfl rfl rfl (op_lss rfl rfl) ?_
    refine TL_nil ?_
    refine T_seq ?_
    refine T_if_false rfl (decide_eq_false (by simp)) ?_
    refine T_keepH [] [] rfl rfl rfl rfl (by rw [hF]; rfl) ?_
    refine T_exit ?_
    exact hx0 (.inl ()) hm
  · unfold m_slices_IndexFunc_impl_Instr_impl_Instr_fValidCode_1_L0 at hm
    refine T_seq ?_
    refine T_region ?_
    refine TL_pure rfl rfl rfl rfl (op_lss rfl rfl) ?_
    refine TL_nil ?_
    refine T_seq ?_
    refine T_if_true rfl (decide_eq_true (Int.ofNat_lt.2 hlt0)) ?_
    refine T_skip ?_
    refine T_seq ?_
    refine T_block ?_
    refine T_seq ?_
    refine T_region ?_
    refine TL_pure rfl rfl rfl rfl (op_move rfl) ?_
    refine TL_pure rfl rfl rfl rfl (op_assign rfl) ?_
    refine TL_nil ?_
    refine T_seq ?_
    refine T_region ?_
    refine TL_pure rfl rfl rfl rfl (op_move rfl) ?_
    refine TL_pure rfl rfl rfl rfl (op_move rfl) ?_
    refine TL_pure rfl rfl rfl rfl (op_move rfl) ?_
    refine TL_pure rfl rfl rfl rfl (op_index_sl el60 rfl rfl rfl (get_map hxn0) rfl) ?_
    refine TL_pure rfl rfl rfl rfl (op_load_agg ag172 sz172 rfl rfl rfl) ?_
    obtain ⟨r16, hr16, hm⟩ := bindS hm
    refine TL_callV rfl (c_impl_ValidCode_1 x0 r16 hr16) Try.call124 rfl rfl rfl rfl rfl ?_
    refine TL_nil ?_
    refine T_cond rfl (fun hq => ?_) (fun hq => ?_)
    · replace hm := condT hq hm
      refine T_seq ?_
      refine T_region ?_
      refine TL_pure rfl rfl rfl rfl (op_move rfl) ?_
      refine TL_pure rfl rfl rfl rfl (op_assign rfl) ?_
      refine TL_nil ?_
      refine T_keepH [4] [] rfl rfl rfl rfl (by rw [hF]; rfl) ?_
      refine T_ret ?_
      obtain rfl := someI hm
      have hn := CtlOK_out hc0
      exact hx0 (.inr (n0 : Int)) hn
    · replace hm := condF hq hm
      refine T_skip ?_
      refine T_region ?_
      refine TL_pure rfl rfl rfl rfl (op_addN rfl rfl (Nat.lt_of_lt_of_le hlt0 hlen7)) ?_
      refine TL_pure rfl rfl rfl rfl (op_move rfl) ?_
      refine TL_nil ?_
      refine TR_keepH [0, 1, 7, 8] [] rfl rfl rfl rfl (by rw [hF]; rfl) ?_
      obtain rfl := someI hm
      have hn := CtlOK_next hc0
      exact hn _ rfl
theorem c_slices_ContainsFunc_impl_Instr_impl_Instr_fValidCode_1 (p0 : List Instr) (out : Bool) (hm : m_slices_ContainsFunc_impl_Instr_impl_Instr_fValidCode_1 p0 = some out) : ACall Try.prog 123 [.sl 2 (List.map a_Instr p0), .fn (.func 124) [] []] [] (.bool out) [] := by
  refine ACall.intro Try.func123 rfl Try.ntmps123 rfl (fun F hF => ?_)
  unfold m_slices_ContainsFunc_impl_Instr_impl_Instr_fValidCode_1 at hm
  refine T_seq ?_
  refine T_region ?_
  refine TL_pure rfl rfl rfl rfl (op_assign rfl) ?_
  refine TL_nil ?_
  refine T_seq ?_
  refine T_region ?_
  refine TL_pure rfl rfl rfl rfl (op_move rfl) ?_
  refine TL_pure rfl rfl rfl rfl (op_move rfl) ?_
  obtain ⟨r7, hr7, hm⟩ := bindS hm
  refine TL_callF (c_slices_IndexFunc_impl_Instr_impl_Instr_fValidCode_1 p0 r7 hr7) Try.call132 rfl rfl rfl rfl rfl ?_
  refine TL_pure rfl rfl rfl rfl (op_geq rfl rfl) ?_
  refine TL_pure rfl rfl rfl rfl (op_assign rfl) ?_
  refine TL_nil ?_
  refine T_keepH [4] [] rfl rfl rfl rfl (by rw [hF]; rfl) ?_
  refine T_ret ?_
  obtain rfl := someI hm
  refine ⟨[_], [], ⟨rfl, trivial⟩, ?_, rfl, rfl, rfl, rfl⟩
  rfl
theorem c_impl_ValidCode (p0 : List Instr) (out : Bool) (hm : m_impl_ValidCode p0 = some out) : ACall Try.prog 113 [.sl 2 (List.map a_Instr p0)] [] (.bool out) [] := by
  refine ACall.intro Try.func113 rfl Try.ntmps113 rfl (fun F hF => ?_)
  unfold m_impl_ValidCode at hm
  refine T_seq ?_
  refine T_region ?_
  refine TL_pure rfl rfl rfl rfl (op_assign rfl) ?_
  refine TL_nil ?_
  refine T_seq ?_
  refine T_region ?_
  refine TL_pure rfl rfl rfl rfl (op_move rfl) ?_
  refine TL_pure rfl rfl rfl rfl (op_lenT Try.underlying60 rfl (List.length_map _)) ?_
  refine TL_fact (fun _ _ _ hr => RelP.slLen (i := 3) rfl hr) (fun hlen4 => ?_)
  rw [List.length_map] at hlen4
  obtain ⟨r5, hr5, hm⟩ := bindS hm
  refine TL_callF (c_impl_size (p0.length : Int) r5 hr5) Try.call62 rfl rfl rfl rfl rfl ?_
  obtain ⟨r6, hr6, hm⟩ := bindS hm
  refine TL_callF (c_impl_within r5 (1 : Int) (80 : Int) r6 hr6) Try.call63 rfl rfl rfl rfl rfl ?_
  refine TL_pure rfl rfl rfl rfl (op_move rfl) ?_
  refine TL_split 7 rfl rfl rfl (fun hq => ?_) (fun hq => ?_)
  · replace hm := condT hq hm
    refine TL_want rfl rfl ?_
    refine TL_pure rfl rfl rfl rfl (op_move rfl) ?_
    refine TL_want rfl rfl ?_
    obtain ⟨r9, hr9, hm⟩ := bindS hm
    refine TL_callF (c_slices_ContainsFunc_impl_Instr_impl_Instr_fValidCode_1 p0 r9 hr9) Try.call123 rfl rfl rfl rfl rfl ?_
    refine TL_want rfl rfl ?_
    refine TL_pure rfl rfl rfl rfl (op_not rfl) ?_
    refine TL_pure rfl rfl rfl rfl (op_pick_true rfl rfl) ?_
    refine TL_pure rfl rfl rfl rfl (op_assign rfl) ?_
    refine TL_nil ?_
    refine T_keepH [2] [] rfl rfl rfl rfl (by rw [hF]; rfl) ?_
    refine T_ret ?_
    obtain rfl := someI hm
    refine ⟨[_], [], ⟨rfl, trivial⟩, ?_, rfl, rfl, rfl, rfl⟩
    rfl
  · replace hm := condF hq hm
    refine TL_pass rfl rfl rfl rfl rfl rfl rfl ?_
    refine TL_pass rfl rfl rfl rfl rfl rfl rfl ?_
    refine TL_pass rfl rfl rfl rfl rfl rfl rfl ?_
    refine TL_pure rfl rfl rfl rfl (op_pick_false rfl rfl) ?_
    refine TL_pure rfl rfl rfl rfl (op_assign rfl) ?_
    refine TL_nil ?_
    refine T_keepH [2] [] rfl rfl rfl rfl (by rw [hF]; rfl) ?_
    refine T_ret ?_
    obtain rfl := someI hm
    refine ⟨[_], [], ⟨rfl, trivial⟩, ?_, rfl, rfl, rfl, rfl⟩
    rfl
theorem c_impl_ValidAnnotated (p0 : Annotated) (out : Bool) (hm : m_impl_ValidAnnotated p0 = some out) : ACall Try.prog 90 [.agg [.sl 2 (List.map a_Term p0.Pre), .sl 2 (List.map a_Term p0.Post), .sl 2 (List.map a_Instr p0.Code), .sl 2 (List.map a_Point p0.Points)]] [] (.bool out) [] := by
  refine ACall.intro Try.func90 rfl Try.ntmps90 rfl (fun F hF => ?_)
  unfold m_impl_ValidAnnotated at hm
  refine T_seq ?_
  refine T_region ?_
  refine TL_box 11 rfl rfl rfl rfl rfl rfl rfl ?_
  refine TL_pure rfl rfl rfl rfl (op_assign rfl) ?_
  refine TL_nil ?_
  refine T_seq ?_
  refine T_seq ?_
  refine T_region ?_
  refine TL_pure rfl rfl rfl rfl (op_fieldAddr fa63_2 rfl rfl) ?_
  refine TL_pure rfl rfl rfl rfl (op_load_one ag60 rfl rfl) ?_
  obtain ⟨r7, hr7, hm⟩ := bindS hm
  refine TL_callF (c_impl_ValidCode p0.Code r7 hr7) Try.call113 rfl rfl rfl rfl rfl ?_
  refine TL_pure rfl rfl rfl rfl (op_not rfl) ?_
  refine TL_pure rfl rfl rfl rfl (op_move rfl) ?_
  refine TL_split 9 rfl rfl rfl (fun hq => ?_) (fun hq => ?_)
  · replace hm := condT hq hm
    refine TL_pass rfl rfl rfl rfl rfl rfl rfl ?_
    refine TL_pass rfl rfl rfl rfl rfl rfl rfl ?_
    refine TL_pass rfl rfl rfl rfl rfl rfl rfl ?_
    refine TL_pass rfl rfl rfl rfl rfl rfl rfl ?_
    refine TL_pure rfl rfl rfl rfl (op_pick_true rfl rfl) ?_
    refine TL_pure rfl rfl rfl rfl (op_move rfl) ?_
    refine TL_pass rfl rfl rfl rfl rfl rfl rfl ?_
    refine TL_pass rfl rfl rfl rfl rfl rfl rfl ?_
    refine TL_pass rfl rfl rfl rfl rfl rfl rfl ?_
    refine TL_pass rfl rfl rfl rfl rfl rfl rfl ?_
    refine TL_pure rfl rfl rfl rfl (op_pick_true rfl rfl) ?_
    refine TL_pure rfl rfl rfl rfl (op_move rfl) ?_
    refine TL_pass rfl rfl rfl rfl rfl rfl rfl ?_
    refine TL_pass rfl rfl rfl rfl rfl rfl rfl ?_
    refine TL_pass rfl rfl rfl rfl rfl rfl rfl ?_
    refine TL_pass rfl rfl rfl rfl rfl rfl rfl ?_
    refine TL_pure rfl rfl rfl rfl (op_pick_true rfl rfl) ?_
    refine TL_nil ?_
    refine T_cond_true rfl ?_
    refine T_seq ?_
    refine T_region ?_
    refine TL_pure rfl rfl rfl rfl (op_assign rfl) ?_
    refine TL_nil ?_
    refine T_keepH [2] [] rfl rfl rfl rfl (by rw [hF]; rfl) ?_
    refine T_ret ?_
    obtain rfl := someI hm
    refine ⟨[_], [], ⟨rfl, trivial⟩, ?_, rfl, rfl, rfl, rfl⟩
    rfl
  · replace hm := condF hq hm
    refine TL_want rfl rfl ?_
    refine TL_pure rfl rfl rfl rfl (op_fieldAddr fa63_0 rfl rfl) ?_
    refine TL_want rfl rfl ?_
    refine TL_pure rfl rfl rfl rfl (op_load_one ag30 rfl rfl) ?_
    refine TL_want rfl rfl ?_
    obtain ⟨r12, hr12, hm⟩ := bindS hm
    refine TL_callF (c_impl_areOver p0.Pre (6 : Int) r12 hr12) Try.call82 rfl rfl rfl rfl rfl ?_
    refine TL_want rfl rfl ?_
    refine TL_pure rfl rfl rfl rfl (op_not rfl) ?_
    refine TL_pure rfl rfl rfl rfl (op_pick_false rfl rfl) ?_
    refine TL_pure rfl rfl rfl rfl (op_move rfl) ?_
    refine TL_split 15 rfl rfl rfl (fun hq => ?_) (fun hq => ?_)
    · replace hm := condT hq hm
      refine TL_pass rfl rfl rfl rfl rfl rfl rfl ?_
      refine TL_pass rfl rfl rfl rfl rfl rfl rfl ?_
      refine TL_pass rfl rfl rfl rfl rfl rfl rfl ?_
      refine TL_pass rfl rfl rfl rfl rfl rfl rfl ?_
      refine TL_pure rfl rfl rfl rfl (op_pick_true rfl rfl) ?_
      refine TL_pure rfl rfl rfl rfl (op_move rfl) ?_
      refine TL_pass rfl rfl rfl rfl rfl rfl rfl ?_
      refine TL_pass rfl rfl rfl rfl rfl rfl rfl ?_
      refine TL_pass rfl rfl rfl rfl rfl rfl rfl ?_
      refine TL_pass rfl rfl rfl rfl rfl rfl rfl ?_
      refine TL_pure rfl rfl rfl rfl (op_pick_true rfl rfl) ?_
      refine TL_nil ?_
      refine T_cond_true rfl ?_
      refine T_seq ?_
      refine T_region ?_
      refine TL_pure rfl rfl rfl rfl (op_assign rfl) ?_
      refine TL_nil ?_
      refine T_keepH [2] [] rfl rfl rfl rfl (by rw [hF]; rfl) ?_
      refine T_ret ?_
      obtain rfl := someI hm
      refine ⟨[_], [], ⟨rfl, trivial⟩, ?_, rfl, rfl, rfl, rfl⟩
      rfl
    · replace hm := condF hq hm
      refine TL_want rfl rfl ?_
      refine TL_pure rfl rfl rfl rfl (op_fieldAddr fa63_1 rfl rfl) ?_
      refine TL_want rfl rfl ?_
      refine TL_pure rfl rfl rfl rfl (op_load_one ag30 rfl rfl) ?_
      refine TL_want rfl rfl ?_
      obtain ⟨r18, hr18, hm⟩ := bindS hm
      refine TL_callF (c_impl_areOver p0.Post (6 : Int) r18 hr18) Try.call82 rfl rfl rfl rfl rfl ?_
      refine TL_want rfl rfl ?_
      refine TL_pure rfl rfl rfl rfl (op_not rfl) ?_
      refine TL_pure rfl rfl rfl rfl (op_pick_false rfl rfl) ?_
      refine TL_pure rfl rfl rfl rfl (op_move rfl) ?_
      refine TL_join 5 (fun _ : Unit => ⟨[(1, .ptr 11 0 0), (26, .bool ((!r18) || (decide ((8 : Int) < (p0.Points.length : Int)))))], [(11, .box [.sl 2 (List.map a_Term p0.Pre), .sl 2 (List.map a_Term p0.Post), .sl 2 (List.map a_Instr p0.Code), .sl 2 (List.map a_Point p0.Points)])]⟩) (fun _ => True) (fun _ _ => ?_) (fun hjj => ?_)
      · refine TL_nil ?_
        refine T_cond rfl (fun hq => ?_) (fun hq => ?_)
        · replace hm := condT hq hm
          refine T_seq ?_
          refine T_region ?_
          refine TL_pure rfl rfl rfl rfl (op_assign rfl) ?_
          refine TL_nil ?_
          refine T_keepH [2] [] rfl rfl rfl rfl (by rw [hF]; rfl) ?_
          refine T_ret ?_
          obtain rfl := someI hm
          refine ⟨[_], [], ⟨rfl, trivial⟩, ?_, rfl, rfl, rfl, rfl⟩
          rfl
        · replace hm := condF hq hm
          refine T_skip ?_
          refine T_seq ?_
          refine T_seq ?_
          refine T_region ?_
          refine TL_pure rfl rfl rfl rfl (op_fieldAddr fa63_3 rfl rfl) ?_
          refine TL_pure rfl rfl rfl rfl (op_load_one ag61 rfl rfl) ?_
          refine TL_pure rfl rfl rfl rfl (op_lenT Try.underlying61 rfl (List.length_map _)) ?_
          refine TL_fact (fun _ _ _ hr => RelP.slLen (i := 28) rfl hr) (fun hlen29 => ?_)
          rw [List.length_map] at hlen29
          refine TL_pure rfl rfl rfl rfl (op_move rfl) ?_
          refine TL_nil ?_
          refine T_block ?_
          refine T_keepH [1, 28, 29, 30] [11] rfl rfl rfl rfl (by rw [hF]; rfl) ?_
          refine T_loop ?_
          obtain ⟨u0, hl0, hm⟩ := bindS hm
          refine TR_forL2 p0.Points (m_impl_ValidAnnotated_L0 p0) (fun (s0 : Unit) => (.inl ())) (fun n0 (s0 : Unit) => ⟨[(1, .ptr 11 0 0), (28, .sl 2 (List.map a_Point p0.Points)), (29, .int .i64 (p0.Points.length : Int)), (30, .int .i64 (n0 : Int))], [(11, .box [.sl 2 (List.map a_Term p0.Pre), .sl 2 (List.map a_Term p0.Post), .sl 2 (List.map a_Instr p0.Code), .sl 2 (List.map a_Point p0.Points)])]⟩) (fun u0 => match u0 with | .inl u0 => .exit 0 | .inr u0 => .ret) (fun u0 => match u0 with | .inl u0 => ⟨[], []⟩ | .inr u0 => ⟨[(2, .bool u0)], []⟩) (fun u0 => m_impl_ValidAnnotated_A0 u0 = some out) hl0 hm (fun u0 hm => ?_) (fun hx0 s0 hm => ?_) (fun hx0 n0 x0 s0 c0 hxn0 hlt0 hm hc0 => ?_)
          · rcases u0 with u0 | u0
            · unfold m_impl_ValidAnnotated_A0 at hm
              refine T_seq ?_
              refine T_region ?_
              refine TL_pure rfl rfl rfl rfl (op_assign rfl) ?_
              refine TL_nil ?_
              refine T_keepH [2] [] rfl rfl rfl rfl (by rw [hF]; rfl) ?_
              refine T_ret ?_
              obtain rfl := someI hm
              refine ⟨[_], [], ⟨rfl, trivial⟩, ?_, rfl, rfl, rfl, rfl⟩
              rfl
            · unfold m_impl_ValidAnnotated_A0 at hm
              obtain rfl := someI hm
              refine ⟨[_], [], ⟨rfl, trivial⟩, ?_, rfl, rfl, rfl, rfl⟩
              rfl
          · refine T_seq ?_
            refine T_region ?_
            refine TL_pure rfl rfl rfl rfl (op_lss rfl rfl) ?_
            refine TL_nil ?_
            refine T_seq ?_
            refine T_if_false rfl (decide_eq_false (by simp)) ?_
            refine T_keepH [] [] rfl rfl rfl rfl (by rw [hF]; rfl) ?_
            refine T_exit ?_
            exact hx0 (.inl ()) hm
          · unfold m_impl_ValidAnnotated_L0 at hm
            refine T_seq ?_
            refine T_region ?_
            refine TL_pure rfl rfl rfl rfl (op_lss rfl rfl) ?_
            refine TL_nil ?_
            refine T_seq ?_
            refine T_if_true rfl (decide_eq_true (Int.ofNat_lt.2 hlt0)) ?_
            refine T_skip ?_
            refine T_seq ?_
            refine T_block ?_
            refine T_seq ?_
            refine T_region ?_
            refine TL_pure rfl rfl rfl rfl (op_move rfl) ?_
            refine TL_pure rfl rfl rfl rfl (op_index_sl el61 rfl rfl rfl (get_map hxn0) rfl) ?_
            refine TL_pure rfl rfl rfl rfl (op_load_agg ag71 sz71 rfl rfl rfl) ?_
            refine TL_alloc 13 z71 rfl rfl rfl rfl rfl rfl rfl ?_
            refine TL_pure rfl rfl rfl rfl (op_assign rfl) ?_
            refine TL_store_box sz71 rfl rfl rfl rfl rfl rfl rfl rfl rfl ?_
            refine TL_nil ?_
            refine T_seq ?_
            refine T_drawZ [] mix (by kernel_rfl) rfl ?_
            obtain ⟨r37, hr37, hm⟩ := bindS hm
            refine TZ_pure 0 (by kernel_rfl) rfl rfl rfl rfl rfl (op_fieldAddr fa71_1 rfl rfl) ?_
            refine TZ_pure 1 (by kernel_rfl) rfl rfl rfl rfl rfl (op_load_one ag30 rfl rfl) ?_
            refine TZ_one 2 (by kernel_rfl) rfl ?_
            refine TL_callF (c_impl_areOver x0.Facts (6 : Int) r37 hr37) Try.call82 rfl rfl rfl rfl rfl ?_
            refine TL_nil ?_
            refine TZ_pure 3 (by kernel_rfl) rfl rfl rfl rfl rfl (op_not rfl) ?_
            refine TZ_pure 4 (by kernel_rfl) rfl rfl rfl rfl rfl (op_move rfl) ?_
            refine TZ_split 39 rfl rfl rfl (fun hq => ?_) (fun hq => ?_)
            · replace hm := condT hq hm
              refine TZ_pass 5 (by kernel_rfl) rfl rfl rfl rfl rfl rfl rfl rfl ?_
              refine TZ_pass 6 (by kernel_rfl) rfl rfl rfl rfl rfl rfl rfl rfl ?_
              refine TZ_pass 7 (by kernel_rfl) rfl rfl rfl rfl rfl rfl rfl rfl ?_
              refine TZ_pass 8 (by kernel_rfl) rfl rfl rfl rfl rfl rfl rfl rfl ?_
              refine TZ_pass 9 (by kernel_rfl) rfl rfl rfl rfl rfl rfl rfl rfl ?_
              refine TZ_one 10 (by kernel_rfl) rfl ?_
              refine TL_pass rfl rfl rfl rfl rfl rfl rfl ?_
              refine TL_nil ?_
              refine TZ_pass 11 (by kernel_rfl) rfl rfl rfl rfl rfl rfl rfl rfl ?_
              refine TZ_pure 12 (by kernel_rfl) rfl rfl rfl rfl rfl (op_pick_true rfl rfl) ?_
              refine TZ_pure 13 (by kernel_rfl) rfl rfl rfl rfl rfl (op_move rfl) ?_
              refine TZ_pass 14 (by kernel_rfl) rfl rfl rfl rfl rfl rfl rfl rfl ?_
              refine TZ_pass 15 (by kernel_rfl) rfl rfl rfl rfl rfl rfl rfl rfl ?_
              refine TZ_pass 16 (by kernel_rfl) rfl rfl rfl rfl rfl rfl rfl rfl ?_
              refine TZ_pass2 17 (by kernel_rfl) rfl rfl rfl rfl rfl rfl rfl ?_
              refine TZ_pass2 18 (by kernel_rfl) rfl rfl rfl rfl rfl rfl rfl ?_
              refine TZ_pass2 19 (by kernel_rfl) rfl rfl rfl rfl rfl rfl rfl ?_
              refine TZ_pass2 20 (by kernel_rfl) rfl rfl rfl rfl rfl rfl rfl ?_
              refine TZ_pass2 21 (by kernel_rfl) rfl rfl rfl rfl rfl rfl rfl ?_
              refine TZ_pass2 22 (by kernel_rfl) rfl rfl rfl rfl rfl rfl rfl ?_
              refine TZ_pass2 23 (by kernel_rfl) rfl rfl rfl rfl rfl rfl rfl ?_
              refine TZ_pass2 24 (by kernel_rfl) rfl rfl rfl rfl rfl rfl rfl ?_
              refine TZ_pass2 25 (by kernel_rfl) rfl rfl rfl rfl rfl rfl rfl ?_
              refine TZ_pass2 26 (by kernel_rfl) rfl rfl rfl rfl rfl rfl rfl ?_
              refine TZ_pass 27 (by kernel_rfl) rfl rfl rfl rfl rfl rfl rfl rfl ?_
              refine TZ_pure 28 (by kernel_rfl) rfl rfl rfl rfl rfl (op_pick_true rfl rfl) ?_
              refine TZ_done (by kernel_rfl) ?_
              refine T_cond_true rfl ?_
              refine T_seq ?_
              refine T_region ?_
              refine TL_pure rfl rfl rfl rfl (op_assign rfl) ?_
              refine TL_nil ?_
              refine T_keepH [2] [] rfl rfl rfl rfl (by rw [hF]; rfl) ?_
              refine T_ret ?_
              obtain rfl := someI hm
              have hn := CtlOK_out hc0
              exact hx0 (.inr false) hn
            · replace hm := condF hq hm
              obtain ⟨r45, hr45, hm⟩ := bindS hm
              refine TZ_pureW 5 (by kernel_rfl) rfl rfl rfl rfl rfl rfl rfl (op_fieldAddr fa71_0 rfl rfl) ?_
              refine TZ_pureW 6 (by kernel_rfl) rfl rfl rfl rfl rfl rfl rfl (op_load_one ag2 rfl rfl) ?_
              refine TZ_pureW 7 (by kernel_rfl) rfl rfl rfl rfl rfl rfl rfl (op_fieldAddr fa63_2 rfl rfl) ?_
              refine TZ_pureW 8 (by kernel_rfl) rfl rfl rfl rfl rfl rfl rfl (op_load_one ag60 rfl rfl) ?_
              refine TZ_pureW 9 (by kernel_rfl) rfl rfl rfl rfl rfl rfl rfl (op_lenT Try.underlying60 rfl (List.length_map _)) ?_
              refine TZ_fact (fun _ _ _ hr => RelP.slLen (i := 43) rfl hr) (fun hlen44 => ?_)
              rw [List.length_map] at hlen44
              refine TZ_one 10 (by kernel_rfl) rfl ?_
              refine TL_want rfl rfl ?_
              refine TL_callF (c_impl_isIndex x0.At (p0.Code.length : Int) r45 hr45) Try.call61 rfl rfl rfl rfl rfl ?_
              refine TL_nil ?_
              refine TZ_pureW 11 (by kernel_rfl) rfl rfl rfl rfl rfl rfl rfl (op_not rfl) ?_
              refine TZ_pure 12 (by kernel_rfl) rfl rfl rfl rfl rfl (op_pick_false rfl rfl) ?_
              refine TZ_pure 13 (by kernel_rfl) rfl rfl rfl rfl rfl (op_move rfl) ?_
              refine TZ_split 48 rfl rfl rfl (fun hq => ?_) (fun hq => ?_)
              · replace hm := condT hq hm
                refine TZ_pass 14 (by kernel_rfl) rfl rfl rfl rfl rfl rfl rfl rfl ?_
                refine TZ_pass 15 (by kernel_rfl) rfl rfl rfl rfl rfl rfl rfl rfl ?_
                refine TZ_pass 16 (by kernel_rfl) rfl rfl rfl rfl rfl rfl rfl rfl ?_
                refine TZ_pass2 17 (by kernel_rfl) rfl rfl rfl rfl rfl rfl rfl ?_
                refine TZ_pass2 18 (by kernel_rfl) rfl rfl rfl rfl rfl rfl rfl ?_
                refine TZ_pass2 19 (by kernel_rfl) rfl rfl rfl rfl rfl rfl rfl ?_
                refine TZ_pass2 20 (by kernel_rfl) rfl rfl rfl rfl rfl rfl rfl ?_
                refine TZ_pass2 21 (by kernel_rfl) rfl rfl rfl rfl rfl rfl rfl ?_
                refine TZ_pass2 22 (by kernel_rfl) rfl rfl rfl rfl rfl rfl rfl ?_
                refine TZ_pass2 23 (by kernel_rfl) rfl rfl rfl rfl rfl rfl rfl ?_
                refine TZ_pass2 24 (by kernel_rfl) rfl rfl rfl rfl rfl rfl rfl ?_
                refine TZ_pass2 25 (by kernel_rfl) rfl rfl rfl rfl rfl rfl rfl ?_
                refine TZ_pass2 26 (by kernel_rfl) rfl rfl rfl rfl rfl rfl rfl ?_
                refine TZ_pass 27 (by kernel_rfl) rfl rfl rfl rfl rfl rfl rfl rfl ?_
                refine TZ_pure 28 (by kernel_rfl) rfl rfl rfl rfl rfl (op_pick_true rfl rfl) ?_
                refine TZ_done (by kernel_rfl) ?_
                refine T_cond_true rfl ?_
                refine T_seq ?_
                refine T_region ?_
                refine TL_pure rfl rfl rfl rfl (op_assign rfl) ?_
                refine TL_nil ?_
                refine T_keepH [2] [] rfl rfl rfl rfl (by rw [hF]; rfl) ?_
                refine T_ret ?_
                obtain rfl := someI hm
                have hn := CtlOK_out hc0
                exact hx0 (.inr false) hn
              · replace hm := condF hq hm
                refine TZ_pureW 14 (by kernel_rfl) rfl rfl rfl rfl rfl rfl rfl (op_move rfl) ?_
                refine TZ_pureW 15 (by kernel_rfl) rfl rfl rfl rfl rfl rfl rfl (op_gtr rfl rfl) ?_
                refine TZ_pureW 16 (by kernel_rfl) rfl rfl rfl rfl rfl rfl rfl (op_move rfl) ?_
                refine TZ_split 51 rfl rfl rfl (fun hq => ?_) (fun hq => ?_)
                · replace hm := condT hq hm
                  obtain ⟨x56, hx56, hm⟩ := bindS hm
                  refine TZ_pureW 17 (by kernel_rfl) rfl rfl rfl rfl rfl rfl rfl (op_fieldAddr fa63_3 rfl rfl) ?_
                  refine TZ_pureW 18 (by kernel_rfl) rfl rfl rfl rfl rfl rfl rfl (op_load_one ag61 rfl rfl) ?_
                  refine TZ_pureW 19 (by kernel_rfl) rfl rfl rfl rfl rfl rfl rfl (op_move rfl) ?_
                  refine TZ_pureW 20 (by kernel_rfl) rfl rfl rfl rfl rfl rfl rfl (op_subW rfl rfl) ?_
                  refine TZ_pureW 21 (by kernel_rfl) rfl rfl rfl rfl rfl rfl rfl (op_indexT el61 rfl rfl hx56 rfl) ?_
                  refine TZ_pureW 22 (by kernel_rfl) rfl rfl rfl rfl rfl rfl rfl (op_fieldAddrC (n := 1) fa71_0 rfl rfl rfl) ?_
                  refine TZ_pureW 23 (by kernel_rfl) rfl rfl rfl rfl rfl rfl rfl (op_load_one ag2 rfl rfl) ?_
                  refine TZ_pureW 24 (by kernel_rfl) rfl rfl rfl rfl rfl rfl rfl (op_fieldAddr fa71_0 rfl rfl) ?_
                  refine TZ_pureW 25 (by kernel_rfl) rfl rfl rfl rfl rfl rfl rfl (op_load_one ag2 rfl rfl) ?_
                  refine TZ_pureW 26 (by kernel_rfl) rfl rfl rfl rfl rfl rfl rfl (op_geq rfl rfl) ?_
                  refine TZ_pureW 27 (by kernel_rfl) rfl rfl rfl rfl rfl rfl rfl (op_pick_true rfl rfl) ?_
                  refine TZ_pure 28 (by kernel_rfl) rfl rfl rfl rfl rfl (op_pick_false rfl rfl) ?_
                  refine TZ_done (by kernel_rfl) ?_
                  refine T_cond rfl (fun hq => ?_) (fun hq => ?_)
                  · replace hm := condT hq hm
                    refine T_seq ?_
                    refine T_region ?_
                    refine TL_pure rfl rfl rfl rfl (op_assign rfl) ?_
                    refine TL_nil ?_
                    refine T_keepH [2] [] rfl rfl rfl rfl (by rw [hF]; rfl) ?_
                    refine T_ret ?_
                    obtain rfl := someI hm
                    have hn := CtlOK_out hc0
                    exact hx0 (.inr false) hn
                  · replace hm := condF hq hm
                    refine T_skip ?_
                    refine T_region ?_
                    refine TL_pure rfl rfl rfl rfl (op_addN rfl rfl (Nat.lt_of_lt_of_le hlt0 hlen29)) ?_
                    refine TL_pure rfl rfl rfl rfl (op_move rfl) ?_
                    refine TL_nil ?_
                    refine TR_keepH [1, 28, 29, 30] [11] rfl rfl rfl rfl (by rw [hF]; rfl) ?_
                    obtain rfl := someI hm
                    have hn := CtlOK_next hc0
                    exact hn _ rfl
                · replace hm := condF hq hm
                  refine TZ_pass 17 (by kernel_rfl) rfl rfl rfl rfl rfl rfl rfl rfl ?_
                  refine TZ_pass 18 (by kernel_rfl) rfl rfl rfl rfl rfl rfl rfl rfl ?_
                  refine TZ_pass 19 (by kernel_rfl) rfl rfl rfl rfl rfl rfl rfl rfl ?_
                  refine TZ_pass 20 (by kernel_rfl) rfl rfl rfl rfl rfl rfl rfl rfl ?_
                  refine TZ_pass 21 (by kernel_rfl) rfl rfl rfl rfl rfl rfl rfl rfl ?_
                  refine TZ_pass 22 (by kernel_rfl) rfl rfl rfl rfl rfl rfl rfl rfl ?_
                  refine TZ_pass 23 (by kernel_rfl) rfl rfl rfl rfl rfl rfl rfl rfl ?_
                  refine TZ_pass 24 (by kernel_rfl) rfl rfl rfl rfl rfl rfl rfl rfl ?_
                  refine TZ_pass 25 (by kernel_rfl) rfl rfl rfl rfl rfl rfl rfl rfl ?_
                  refine TZ_pass 26 (by kernel_rfl) rfl rfl rfl rfl rfl rfl rfl rfl ?_
                  refine TZ_pureW 27 (by kernel_rfl) rfl rfl rfl rfl rfl rfl rfl (op_pick_false rfl rfl) ?_
                  refine TZ_pure 28 (by kernel_rfl) rfl rfl rfl rfl rfl (op_pick_false rfl rfl) ?_
                  refine TZ_done (by kernel_rfl) ?_
                  refine T_cond_false rfl ?_
                  refine T_skip ?_
                  refine T_region ?_
                  refine TL_pure rfl rfl rfl rfl (op_addN rfl rfl (Nat.lt_of_lt_of_le hlt0 hlen29)) ?_
                  refine TL_pure rfl rfl rfl rfl (op_move rfl) ?_
                  refine TL_nil ?_
                  refine TR_keepH [1, 28, 29, 30] [11] rfl rfl rfl rfl (by rw [hF]; rfl) ?_
                  obtain rfl := someI hm
                  have hn := CtlOK_next hc0
                  exact hn _ rfl
      · refine TL_split 21 rfl rfl rfl (fun hq => ?_) (fun hq => ?_)
        · refine TL_pass rfl rfl rfl rfl rfl rfl rfl ?_
          refine TL_pass rfl rfl rfl rfl rfl rfl rfl ?_
          refine TL_pass rfl rfl rfl rfl rfl rfl rfl ?_
          refine TL_pass rfl rfl rfl rfl rfl rfl rfl ?_
          refine TL_pure rfl rfl rfl rfl (op_pick_true rfl rfl) ?_
          refine TL_keepH [1, 26] [11] rfl rfl rfl rfl (by rw [hF]; rfl) ?_
          exact TL_cast _ (by first | (rw [hq, Bool.true_or]; done) | (rw [hq]; rfl)) (hjj () trivial)
        · refine TL_want rfl rfl ?_
          refine TL_pure rfl rfl rfl rfl (op_fieldAddr fa63_3 rfl rfl) ?_
          refine TL_want rfl rfl ?_
          refine TL_pure rfl rfl rfl rfl (op_load_one ag61 rfl rfl) ?_
          refine TL_want rfl rfl ?_
          refine TL_pure rfl rfl rfl rfl (op_lenT Try.underlying61 rfl (List.length_map _)) ?_
          refine TL_fact (fun _ _ _ hr => RelP.slLen (i := 23) rfl hr) (fun hlen24 => ?_)
          rw [List.length_map] at hlen24
          refine TL_want rfl rfl ?_
          refine TL_pure rfl rfl rfl rfl (op_gtr rfl rfl) ?_
          refine TL_pure rfl rfl rfl rfl (op_pick_false rfl rfl) ?_
          refine TL_keepH [1, 26] [11] rfl rfl rfl rfl (by rw [hF]; rfl) ?_
          exact TL_cast _ (by first | (rw [hq, Bool.false_or]; done) | (rw [hq]; rfl)) (hjj () trivial)
theorem c_impl_Annotated_checked (p0 : Annotated) (out : Annotated × Bool) (hm : m_impl_Annotated_checked p0 = some out) : ACall Try.prog 64 [.agg [.sl 2 (List.map a_Term p0.Pre), .sl 2 (List.map a_Term p0.Post), .sl 2 (List.map a_Instr p0.Code), .sl 2 (List.map a_Point p0.Points)]] [] (.tup [.agg [.sl 2 (List.map a_Term out.1.Pre), .sl 2 (List.map a_Term out.1.Post), .sl 2 (List.map a_Instr out.1.Code), .sl 2 (List.map a_Point out.1.Points)], .bool out.2]) [] := by
  refine ACall.intro Try.func64 rfl Try.ntmps64 rfl (fun F hF => ?_)
  unfold m_impl_Annotated_checked at hm
  refine T_seq ?_
  refine T_region ?_
  refine TL_box 11 rfl rfl rfl rfl rfl rfl rfl ?_
  refine TL_alloc 12 z63 rfl rfl rfl rfl rfl rfl rfl ?_
  refine TL_pure rfl rfl rfl rfl (op_assign rfl) ?_
  refine TL_nil ?_
  refine T_seq ?_
  refine T_seq ?_
  refine T_region ?_
  refine TL_pure rfl rfl rfl rfl (op_load_agg ag63 sz63 rfl rfl rfl) ?_
  obtain ⟨r5, hr5, hm⟩ := bindS hm
  refine TL_callF (c_impl_ValidAnnotated p0 r5 hr5) Try.call90 rfl rfl rfl rfl rfl ?_
  refine TL_pure rfl rfl rfl rfl (op_not rfl) ?_
  refine TL_nil ?_
  refine T_cond rfl (fun hq => ?_) (fun hq => ?_)
  · replace hm := condT hq hm
    refine T_seq ?_
    refine T_region ?_
    refine TL_pure rfl rfl rfl rfl (op_buildP pl63 z63 rfl rfl rfl rfl rfl) ?_
    refine TL_store_box sz63 rfl rfl rfl rfl rfl rfl rfl rfl rfl ?_
    refine TL_pure rfl rfl rfl rfl (op_assign rfl) ?_
    refine TL_nil ?_
    refine T_keepH [2, 3] [12] rfl rfl rfl rfl (by rw [hF]; rfl) ?_
    refine T_nilBox 12 (cs' := [.sl 2 (List.map a_Term ([] : List Term)), .sl 2 (List.map a_Term ([] : List Term)), .sl 2 (List.map a_Instr ([] : List Instr)), .sl 2 (List.map a_Point ([] : List Point))]) rfl (⟨_, _, rfl, .inr ⟨_, rfl⟩, ⟨_, _, rfl, .inr ⟨_, rfl⟩, ⟨_, _, rfl, .inr ⟨_, rfl⟩, ⟨_, _, rfl, .inr ⟨_, rfl⟩, rfl⟩⟩⟩⟩) rfl ?_
    refine T_ret ?_
    obtain rfl := someI hm
    refine ⟨[_, _], [], ⟨⟨_, _, rfl, rfl, .inr ⟨ag63, _, _, sz63, rfl, rfl⟩⟩, rfl, trivial⟩, ?_, rfl, rfl, rfl, rfl⟩
    rfl
  · replace hm := condF hq hm
    refine T_skip ?_
    refine T_seq ?_
    refine T_region ?_
    refine TL_pure rfl rfl rfl rfl (op_load_agg ag63 sz63 rfl rfl rfl) ?_
    refine TL_store_box sz63 rfl rfl rfl rfl rfl rfl rfl rfl rfl ?_
    refine TL_pure rfl rfl rfl rfl (op_assign rfl) ?_
    refine TL_nil ?_
    refine T_keepH [2, 3] [12] rfl rfl rfl rfl (by rw [hF]; rfl) ?_
    refine T_ret ?_
    obtain rfl := someI hm
    refine ⟨[_, _], [], ⟨⟨_, _, rfl, rfl, .inr ⟨ag63, _, _, sz63, rfl, rfl⟩⟩, rfl, trivial⟩, ?_, rfl, rfl, rfl, rfl⟩
    rfl
theorem c_impl_CompileProgram (p0 : Program) (out : Annotated × Bool) (hm : m_impl_CompileProgram p0 = some out) : ACall Try.prog 34 [.agg [.sl 2 (List.map a_Term p0.Pre), .sl 8 (List.map a_Stmt p0.Body), .sl 2 (List.map a_Term p0.Post)]] [] (.tup [.agg [.sl 2 (List.map a_Term out.1.Pre), .sl 2 (List.map a_Term out.1.Post), .sl 2 (List.map a_Instr out.1.Code), .sl 2 (List.map a_Point out.1.Points)], .bool out.2]) [] := by
  refine ACall.intro Try.func34 rfl Try.ntmps34 rfl (fun F hF => ?_)
  unfold m_impl_CompileProgram at hm
  refine T_seq ?_
  refine T_region ?_
  refine TL_box 11 rfl rfl rfl rfl rfl rfl rfl ?_
  refine TL_alloc 12 z63 rfl rfl rfl rfl rfl rfl rfl ?_
  refine TL_pure rfl rfl rfl rfl (op_assign rfl) ?_
  refine TL_nil ?_
  refine T_seq ?_
  refine T_region ?_
  refine TL_pure rfl rfl rfl rfl (op_load_agg ag33 sz33 rfl rfl rfl) ?_
  obtain ⟨r8, hr8, hm⟩ := bindS hm
  rcases Bool.eq_false_or_eq_true r8.2 with hq | hq
  · replace hm := condT hq hm
    refine TLE_call [] [(1000, 13), (1001, 14), (1002, 15), (1003, 16), (1004, 17)] [] (by have hc := c_impl_compiled p0 r8 hr8; rw [hq] at hc; exact hc) (fun _ => rfl) Try.call59 rfl rfl rfl rfl rfl trivial rfl rfl rfl rfl rfl rfl rfl rfl rfl rfl rfl ?_
    refine TL_pure rfl rfl rfl rfl (op_move rfl) ?_
    refine TL_pure rfl rfl rfl rfl (op_extract rfl rfl) ?_
    refine TL_pure rfl rfl rfl rfl (op_extract rfl rfl) ?_
    refine TL_pure rfl rfl rfl rfl (op_assign rfl) ?_
    refine TL_pure rfl rfl rfl rfl (op_assign rfl) ?_
    refine TL_nil ?_
    refine T_seq ?_
    refine T_seq ?_
    refine T_region ?_
    refine TL_pure rfl rfl rfl rfl (op_move rfl) ?_
    refine TL_pure rfl rfl rfl rfl (op_not rfl) ?_
    refine TL_nil ?_
    refine T_cond_false rfl ?_
    refine T_skip ?_
    refine T_seq ?_
    refine T_drawZ [18] mix (by kernel_rfl) rfl ?_
    obtain ⟨r16, hr16, hm⟩ := bindS hm
    obtain ⟨r19, hr19, hm⟩ := bindS hm
    obtain ⟨r29, hr29, hm⟩ := bindS hm
    refine TZ_pure 0 (by kernel_rfl) rfl rfl rfl rfl rfl (op_fieldAddr fa33_0 rfl rfl) ?_
    refine TZ_pure 1 (by kernel_rfl) rfl rfl rfl rfl rfl (op_load_one ag30 rfl rfl) ?_
    refine TZ_pure 3 (by kernel_rfl) rfl rfl rfl rfl rfl (op_fieldAddr fa33_2 rfl rfl) ?_
    refine TZ_pure 4 (by kernel_rfl) rfl rfl rfl rfl rfl (op_load_one ag30 rfl rfl) ?_
    refine TZ_pure 6 (by kernel_rfl) rfl rfl rfl rfl rfl (op_move rfl) ?_
    refine TZ_pure 7 (by kernel_rfl) rfl rfl rfl rfl rfl (op_nilCheck rfl rfl) ?_
    refine TZ_pure 8 (by kernel_rfl) rfl rfl rfl rfl rfl (op_fieldAddr fa114_0 rfl rfl) ?_
    refine TZ_pure 9 (by kernel_rfl) rfl rfl rfl rfl rfl (op_load_one ag60 rfl rfl) ?_
    refine TZ_pure 10 (by kernel_rfl) rfl rfl rfl rfl rfl (op_move rfl) ?_
    refine TZ_pure 11 (by kernel_rfl) rfl rfl rfl rfl rfl (op_nilCheck rfl rfl) ?_
    refine TZ_pure 12 (by kernel_rfl) rfl rfl rfl rfl rfl (op_fieldAddr fa114_1 rfl rfl) ?_
    refine TZ_pure 13 (by kernel_rfl) rfl rfl rfl rfl rfl (op_load_one ag61 rfl rfl) ?_
    refine TZ_one 2 (by kernel_rfl) rfl ?_
    refine TL_callO [(1000, 70)] (c_impl_ownTerms p0.Pre r16 hr16) Try.call50 rfl rfl rfl rfl rfl rfl rfl rfl rfl rfl rfl rfl rfl ?_
    refine TL_nil ?_
    refine TZ_one 5 (by kernel_rfl) rfl ?_
    refine TL_callO [(1000, 71)] (c_impl_ownTerms p0.Post r19 hr19) Try.call50 rfl rfl rfl rfl rfl rfl rfl rfl rfl rfl rfl rfl rfl ?_
    refine TL_nil ?_
    refine TZ_pure 14 (by kernel_rfl) rfl rfl rfl rfl rfl (op_buildP pl63 z63 rfl rfl rfl rfl rfl) ?_
    refine TZ_one 15 (by kernel_rfl) rfl ?_
    refine TL_freeze 14 (by rw [hF]; rfl) rfl rfl rfl ?_
    refine TL_freeze 15 (by rw [hF]; rfl) rfl rfl rfl ?_
    refine TL_freeze 70 (by rw [hF]; rfl) rfl rfl rfl ?_
    refine TL_freeze 71 (by rw [hF]; rfl) rfl rfl rfl ?_
    refine TL_callT (c_impl_Annotated_checked (Annotated.mk r16 r19 r8.1.code r8.1.points) r29 hr29) Try.call64 rfl rfl rfl rfl rfl ?_
    refine TL_nil ?_
    refine TZ_pure 16 (by kernel_rfl) rfl rfl rfl rfl rfl (op_extract rfl rfl) ?_
    refine TZ_pure 17 (by kernel_rfl) rfl rfl rfl rfl rfl (op_extract rfl rfl) ?_
    refine TZ_one 18 (by kernel_rfl) rfl ?_
    refine TL_store_box sz63 rfl rfl rfl rfl rfl rfl rfl rfl rfl ?_
    refine TL_nil ?_
    refine TZ_pure 19 (by kernel_rfl) rfl rfl rfl rfl rfl (op_assign rfl) ?_
    refine TZ_done (by kernel_rfl) ?_
    refine T_keepH [2, 3] [12] rfl rfl rfl rfl (by rw [hF]; rfl) ?_
    refine T_ret ?_
    obtain rfl := someI hm
    refine ⟨[_, _], [], ⟨⟨_, _, rfl, rfl, .inr ⟨ag63, _, _, sz63, rfl, rfl⟩⟩, rfl, trivial⟩, ?_, rfl, rfl, rfl, rfl⟩
    rfl
  · replace hm := condF hq hm
    refine TLE_call [] [] [] (by have hc := c_impl_compiled p0 r8 hr8; rw [hq] at hc; exact hc) (fun _ => rfl) Try.call59 rfl rfl rfl rfl rfl trivial rfl rfl rfl rfl rfl rfl rfl rfl rfl rfl rfl ?_
    refine TL_pure rfl rfl rfl rfl (op_move rfl) ?_
    refine TL_pure rfl rfl rfl rfl (op_extract rfl rfl) ?_
    refine TL_pure rfl rfl rfl rfl (op_extract rfl rfl) ?_
    refine TL_pure rfl rfl rfl rfl (op_assign rfl) ?_
    refine TL_pure rfl rfl rfl rfl (op_assign rfl) ?_
    refine TL_nil ?_
    refine T_seq ?_
    refine T_seq ?_
    refine T_region ?_
    refine TL_pure rfl rfl rfl rfl (op_move rfl) ?_
    refine TL_pure rfl rfl rfl rfl (op_not rfl) ?_
    refine TL_nil ?_
    refine T_cond_true rfl ?_
    refine T_seq ?_
    refine T_region ?_
    refine TL_pure rfl rfl rfl rfl (op_buildP pl63 z63 rfl rfl rfl rfl rfl) ?_
    refine TL_store_box sz63 rfl rfl rfl rfl rfl rfl rfl rfl rfl ?_
    refine TL_pure rfl rfl rfl rfl (op_assign rfl) ?_
    refine TL_nil ?_
    refine T_keepH [2, 3] [12] rfl rfl rfl rfl (by rw [hF]; rfl) ?_
    refine T_nilBox 12 (cs' := [.sl 2 (List.map a_Term ([] : List Term)), .sl 2 (List.map a_Term ([] : List Term)), .sl 2 (List.map a_Instr ([] : List Instr)), .sl 2 (List.map a_Point ([] : List Point))]) rfl (⟨_, _, rfl, .inr ⟨_, rfl⟩, ⟨_, _, rfl, .inr ⟨_, rfl⟩, ⟨_, _, rfl, .inr ⟨_, rfl⟩, ⟨_, _, rfl, .inr ⟨_, rfl⟩, rfl⟩⟩⟩⟩) rfl ?_
    refine T_ret ?_
    obtain rfl := someI hm
    refine ⟨[_, _], [], ⟨⟨_, _, rfl, rfl, .inr ⟨ag63, _, _, sz63, rfl, rfl⟩⟩, rfl, trivial⟩, ?_, rfl, rfl, rfl, rfl⟩
    rfl
end Go.Mod
