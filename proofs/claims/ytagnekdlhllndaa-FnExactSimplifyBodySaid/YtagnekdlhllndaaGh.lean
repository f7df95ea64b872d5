import Derived.Test.YtagnekdlhllndaaGg
namespace Go.Mod
open Go Go.AM Go.Proofs
set_option linter.unusedVariables false
set_option linter.unusedSimpArgs false
set_option maxRecDepth 100000
set_option maxHeartbeats 8000000
theorem c_impl_sameTree_F (rec_impl_sameTree : Ptree → Ptree → Option Bool) (hrec_impl_sameTree : ∀ (p0 : Ptree) (p1 : Ptree) (out : Bool), rec_impl_sameTree p0 p1 = some out → ACall Try.prog 104 [a_Ptree p0, a_Ptree p1] [] (.bool out) []) (p0 : Ptree) (p1 : Ptree) (out : Bool) (hm : m_impl_sameTree_F rec_impl_sameTree p0 p1 = some out) : ACall Try.prog 104 [a_Ptree p0, a_Ptree p1] [] (.bool out) [] := by
  refine ACall.intro Try.func104 rfl Try.ntmps104 rfl (fun F hF => ?_)
  unfold m_impl_sameTree_F at hm
  refine T_seq ?_
  refine T_region ?_
  refine TL_pure rfl rfl rfl rfl (op_assign rfl) ?_
  refine TL_nil ?_
  refine T_join (fun (j0 : Int × Int × Int × Int × (List Int) × Int × (List Int) × (List Term) × Int × Int × Int × Int × (List Int) × Int × (List Int) × (List Term)) => ⟨[(0, a_Ptree p0), (1, a_Ptree p1), (5, .ptr 731 0 0), (6, .ptr 811 0 0)], [(731, .box [.int .i64 j0.1, .int .i64 j0.2.1, .int .i64 j0.2.2.1, .int .i64 j0.2.2.2.1, .sl 1 (List.map a_i64 j0.2.2.2.2.1), .int .i64 j0.2.2.2.2.2.1, .sl 1 (List.map a_i64 j0.2.2.2.2.2.2.1), .sl 2 (List.map a_Term j0.2.2.2.2.2.2.2.1)]), (811, .box [.int .i64 j0.2.2.2.2.2.2.2.2.1, .int .i64 j0.2.2.2.2.2.2.2.2.2.1, .int .i64 j0.2.2.2.2.2.2.2.2.2.2.1, .int .i64 j0.2.2.2.2.2.2.2.2.2.2.2.1, .sl 1 (List.map a_i64 j0.2.2.2.2.2.2.2.2.2.2.2.2.1), .int .i64 j0.2.2.2.2.2.2.2.2.2.2.2.2.2.1, .sl 1 (List.map a_i64 j0.2.2.2.2.2.2.2.2.2.2.2.2.2.2.1), .sl 2 (List.map a_Term j0.2.2.2.2.2.2.2.2.2.2.2.2.2.2.2)])]⟩) (fun j0 => m_impl_sameTree_F_J0 rec_impl_sameTree p0 p1 j0 = some out) (fun j0 hm => ?_) (fun hj0 => ?_)
  · unfold m_impl_sameTree_F_J0 at hm
    refine T_seq ?_
    refine T_drawZ [] mix (by kernel_rfl) rfl ?_
    refine TZ_pure 0 (by kernel_rfl) rfl rfl rfl rfl rfl (op_fieldAddr fa77_0 rfl rfl) ?_
    refine TZ_pure 1 (by kernel_rfl) rfl rfl rfl rfl rfl (op_load_one ag2 rfl rfl) ?_
    refine TZ_pure 2 (by kernel_rfl) rfl rfl rfl rfl rfl (op_fieldAddr fa77_0 rfl rfl) ?_
    refine TZ_pure 3 (by kernel_rfl) rfl rfl rfl rfl rfl (op_load_one ag2 rfl rfl) ?_
    refine TZ_pure 4 (by kernel_rfl) rfl rfl rfl rfl rfl (op_eql rfl rfl) ?_
    refine TZ_pure 5 (by kernel_rfl) rfl rfl rfl rfl rfl (op_move rfl) ?_
    refine TZ_split 20 rfl rfl rfl (fun hq => ?_) (fun hq => ?_)
    · replace hm := condT hq hm
      refine TZ_pureW 6 (by kernel_rfl) rfl rfl rfl rfl rfl rfl rfl (op_fieldAddr fa77_1 rfl rfl) ?_
      refine TZ_pureW 7 (by kernel_rfl) rfl rfl rfl rfl rfl rfl rfl (op_load_one ag2 rfl rfl) ?_
      refine TZ_pureW 8 (by kernel_rfl) rfl rfl rfl rfl rfl rfl rfl (op_fieldAddr fa77_1 rfl rfl) ?_
      refine TZ_pureW 9 (by kernel_rfl) rfl rfl rfl rfl rfl rfl rfl (op_load_one ag2 rfl rfl) ?_
      refine TZ_pureW 10 (by kernel_rfl) rfl rfl rfl rfl rfl rfl rfl (op_eql rfl rfl) ?_
      refine TZ_pure 11 (by kernel_rfl) rfl rfl rfl rfl rfl (op_pick_true rfl rfl) ?_
      refine TZ_pure 12 (by kernel_rfl) rfl rfl rfl rfl rfl (op_move rfl) ?_
      refine TZ_split 27 rfl rfl rfl (fun hq => ?_) (fun hq => ?_)
      · replace hm := condT hq hm
        refine TZ_pureW 13 (by kernel_rfl) rfl rfl rfl rfl rfl rfl rfl (op_fieldAddr fa77_2 rfl rfl) ?_
        refine TZ_pureW 14 (by kernel_rfl) rfl rfl rfl rfl rfl rfl rfl (op_load_one ag2 rfl rfl) ?_
        refine TZ_pureW 15 (by kernel_rfl) rfl rfl rfl rfl rfl rfl rfl (op_fieldAddr fa77_2 rfl rfl) ?_
        refine TZ_pureW 16 (by kernel_rfl) rfl rfl rfl rfl rfl rfl rfl (op_load_one ag2 rfl rfl) ?_
        refine TZ_pureW 17 (by kernel_rfl) rfl rfl rfl rfl rfl rfl rfl (op_eql rfl rfl) ?_
        refine TZ_pure 18 (by kernel_rfl) rfl rfl rfl rfl rfl (op_pick_true rfl rfl) ?_
        refine TZ_pure 19 (by kernel_rfl) rfl rfl rfl rfl rfl (op_move rfl) ?_
        refine TZ_split 34 rfl rfl rfl (fun hq => ?_) (fun hq => ?_)
        · replace hm := condT hq hm
          obtain ⟨r39, hr39, hm⟩ := bindS hm
          refine TZ_pureW 20 (by kernel_rfl) rfl rfl rfl rfl rfl rfl rfl (op_fieldAddr fa77_3 rfl rfl) ?_
          refine TZ_pureW 21 (by kernel_rfl) rfl rfl rfl rfl rfl rfl rfl (op_load_agg ag75 sz75 rfl rfl rfl) ?_
          refine TZ_pureW 22 (by kernel_rfl) rfl rfl rfl rfl rfl rfl rfl (op_fieldAddr fa77_3 rfl rfl) ?_
          refine TZ_pureW 23 (by kernel_rfl) rfl rfl rfl rfl rfl rfl rfl (op_load_agg ag75 sz75 rfl rfl rfl) ?_
          refine TZ_one 24 (by kernel_rfl) rfl ?_
          refine TL_want rfl rfl ?_
          refine TL_callF (c_impl_Term_equal (Term.mk j0.2.2.2.1 j0.2.2.2.2.1) (Term.mk j0.2.2.2.2.2.2.2.2.2.2.2.1 j0.2.2.2.2.2.2.2.2.2.2.2.2.1) r39 hr39) Try.call127 rfl rfl rfl rfl rfl ?_
          refine TL_nil ?_
          refine TZ_pure 25 (by kernel_rfl) rfl rfl rfl rfl rfl (op_pick_true rfl rfl) ?_
          refine TZ_pure 26 (by kernel_rfl) rfl rfl rfl rfl rfl (op_move rfl) ?_
          refine TZ_split 41 rfl rfl rfl (fun hq => ?_) (fun hq => ?_)
          · replace hm := condT hq hm
            obtain ⟨r46, hr46, hm⟩ := bindS hm
            refine TZ_pureW 27 (by kernel_rfl) rfl rfl rfl rfl rfl rfl rfl (op_fieldAddr fa77_4 rfl rfl) ?_
            refine TZ_pureW 28 (by kernel_rfl) rfl rfl rfl rfl rfl rfl rfl (op_load_agg ag75 sz75 rfl rfl rfl) ?_
            refine TZ_pureW 29 (by kernel_rfl) rfl rfl rfl rfl rfl rfl rfl (op_fieldAddr fa77_4 rfl rfl) ?_
            refine TZ_pureW 30 (by kernel_rfl) rfl rfl rfl rfl rfl rfl rfl (op_load_agg ag75 sz75 rfl rfl rfl) ?_
            refine TZ_one 31 (by kernel_rfl) rfl ?_
            refine TL_want rfl rfl ?_
            refine TL_callF (c_impl_Term_equal (Term.mk j0.2.2.2.2.2.1 j0.2.2.2.2.2.2.1) (Term.mk j0.2.2.2.2.2.2.2.2.2.2.2.2.2.1 j0.2.2.2.2.2.2.2.2.2.2.2.2.2.2.1) r46 hr46) Try.call127 rfl rfl rfl rfl rfl ?_
            refine TL_nil ?_
            refine TZ_pure 32 (by kernel_rfl) rfl rfl rfl rfl rfl (op_pick_true rfl rfl) ?_
            refine TZ_pure 33 (by kernel_rfl) rfl rfl rfl rfl rfl (op_move rfl) ?_
            refine TZ_split 48 rfl rfl rfl (fun hq => ?_) (fun hq => ?_)
            · replace hm := condT hq hm
              obtain ⟨r53, hr53, hm⟩ := bindS hm
              refine TZ_pureW 34 (by kernel_rfl) rfl rfl rfl rfl rfl rfl rfl (op_fieldAddr fa77_5 rfl rfl) ?_
              refine TZ_pureW 35 (by kernel_rfl) rfl rfl rfl rfl rfl rfl rfl (op_load_one ag24 rfl rfl) ?_
              refine TZ_pureW 36 (by kernel_rfl) rfl rfl rfl rfl rfl rfl rfl (op_fieldAddr fa77_5 rfl rfl) ?_
              refine TZ_pureW 37 (by kernel_rfl) rfl rfl rfl rfl rfl rfl rfl (op_load_one ag24 rfl rfl) ?_
              refine TZ_one 38 (by kernel_rfl) rfl ?_
              refine TL_want rfl rfl ?_
              refine TL_callF (c_impl_sameTerms j0.2.2.2.2.2.2.2.1 j0.2.2.2.2.2.2.2.2.2.2.2.2.2.2.2 r53 hr53) Try.call128 rfl rfl rfl rfl rfl ?_
              refine TL_nil ?_
              refine TZ_pure 39 (by kernel_rfl) rfl rfl rfl rfl rfl (op_pick_true rfl rfl) ?_
              refine TZ_pure 40 (by kernel_rfl) rfl rfl rfl rfl rfl (op_move rfl) ?_
              refine TZ_split 55 rfl rfl rfl (fun hq => ?_) (fun hq => ?_)
              · replace hm := condT hq hm
                obtain ⟨o56, ho56, hm⟩ := bindS hm
                obtain ⟨o60, ho60, hm⟩ := bindS hm
                obtain ⟨r64, hr64, hm⟩ := bindS hm
                refine TZ_pureW 41 (by kernel_rfl) rfl rfl rfl rfl rfl rfl rfl (op_move rfl) ?_
                refine TZ_trAt 56 (x' := .cp [.int .i64 o56.Stmt.Kind, .int .i64 o56.Stmt.Var, .int .i64 o56.Stmt.Event, .int .i64 o56.Stmt.Sum.Const, .sl 1 (List.map a_i64 o56.Stmt.Sum.Coeffs), .int .i64 o56.Stmt.Index.Const, .sl 1 (List.map a_i64 o56.Stmt.Index.Coeffs), .sl 2 (List.map a_Term o56.Stmt.Facts), .int .i64 o56.at_, .sl 1 (List.map a_Ptree o56.kids)]) rfl (TrR_open (un_tree_eq ho56)) rfl ?_
                refine TZ_pureW 42 (by kernel_rfl) rfl rfl rfl rfl rfl rfl rfl (op_nilCheck rfl rfl) ?_
                refine TZ_pureW 43 (by kernel_rfl) rfl rfl rfl rfl rfl rfl rfl (op_fieldAddr fa132_2 rfl rfl) ?_
                refine TZ_pureW 44 (by kernel_rfl) rfl rfl rfl rfl rfl rfl rfl (op_load_one ag129 rfl rfl) ?_
                refine TZ_pureW 45 (by kernel_rfl) rfl rfl rfl rfl rfl rfl rfl (op_move rfl) ?_
                refine TZ_trAt 60 (x' := .cp [.int .i64 o60.Stmt.Kind, .int .i64 o60.Stmt.Var, .int .i64 o60.Stmt.Event, .int .i64 o60.Stmt.Sum.Const, .sl 1 (List.map a_i64 o60.Stmt.Sum.Coeffs), .int .i64 o60.Stmt.Index.Const, .sl 1 (List.map a_i64 o60.Stmt.Index.Coeffs), .sl 2 (List.map a_Term o60.Stmt.Facts), .int .i64 o60.at_, .sl 1 (List.map a_Ptree o60.kids)]) rfl (TrR_open (un_tree_eq ho60)) rfl ?_
                refine TZ_pureW 46 (by kernel_rfl) rfl rfl rfl rfl rfl rfl rfl (op_nilCheck rfl rfl) ?_
                refine TZ_pureW 47 (by kernel_rfl) rfl rfl rfl rfl rfl rfl rfl (op_fieldAddr fa132_2 rfl rfl) ?_
                refine TZ_pureW 48 (by kernel_rfl) rfl rfl rfl rfl rfl rfl rfl (op_load_one ag129 rfl rfl) ?_
                refine TZ_one 49 (by kernel_rfl) rfl ?_
                refine TL_want rfl rfl ?_
                refine TL_callF (c_slices_EqualFunc_impl_tree_impl_tree_impl_tree_impl_tree_fsameTree_r rec_impl_sameTree hrec_impl_sameTree o56.kids o60.kids r64 hr64) Try.call129 rfl rfl rfl rfl rfl ?_
                refine TL_nil ?_
                refine TZ_pure 50 (by kernel_rfl) rfl rfl rfl rfl rfl (op_pick_true rfl rfl) ?_
                refine TZ_pure 51 (by kernel_rfl) rfl rfl rfl rfl rfl (op_assign rfl) ?_
                refine TZ_done (by kernel_rfl) ?_
                refine T_keepH [4] [] rfl rfl rfl rfl (by rw [hF]; rfl) ?_
                refine T_ret ?_
                obtain rfl := someI hm
                refine ⟨[_], [], ⟨rfl, trivial⟩, ?_, rfl, rfl, rfl, rfl⟩
                rfl
              · replace hm := condF hq hm
                refine TZ_pass 41 (by kernel_rfl) rfl rfl rfl rfl rfl rfl rfl rfl ?_
                refine TZ_pass 42 (by kernel_rfl) rfl rfl rfl rfl rfl rfl rfl rfl ?_
                refine TZ_pass 43 (by kernel_rfl) rfl rfl rfl rfl rfl rfl rfl rfl ?_
                refine TZ_pass 44 (by kernel_rfl) rfl rfl rfl rfl rfl rfl rfl rfl ?_
                refine TZ_pass 45 (by kernel_rfl) rfl rfl rfl rfl rfl rfl rfl rfl ?_
                refine TZ_pass 46 (by kernel_rfl) rfl rfl rfl rfl rfl rfl rfl rfl ?_
                refine TZ_pass 47 (by kernel_rfl) rfl rfl rfl rfl rfl rfl rfl rfl ?_
                refine TZ_pass 48 (by kernel_rfl) rfl rfl rfl rfl rfl rfl rfl rfl ?_
                refine TZ_one 49 (by kernel_rfl) rfl ?_
                refine TL_pass rfl rfl rfl rfl rfl rfl rfl ?_
                refine TL_nil ?_
                refine TZ_pure 50 (by kernel_rfl) rfl rfl rfl rfl rfl (op_pick_false rfl rfl) ?_
                refine TZ_pure 51 (by kernel_rfl) rfl rfl rfl rfl rfl (op_assign rfl) ?_
                refine TZ_done (by kernel_rfl) ?_
                refine T_keepH [4] [] rfl rfl rfl rfl (by rw [hF]; rfl) ?_
                refine T_ret ?_
                obtain rfl := someI hm
                refine ⟨[_], [], ⟨rfl, trivial⟩, ?_, rfl, rfl, rfl, rfl⟩
                rfl
            · replace hm := condF hq hm
              refine TZ_pass 34 (by kernel_rfl) rfl rfl rfl rfl rfl rfl rfl rfl ?_
              refine TZ_pass 35 (by kernel_rfl) rfl rfl rfl rfl rfl rfl rfl rfl ?_
              refine TZ_pass 36 (by kernel_rfl) rfl rfl rfl rfl rfl rfl rfl rfl ?_
              refine TZ_pass 37 (by kernel_rfl) rfl rfl rfl rfl rfl rfl rfl rfl ?_
              refine TZ_one 38 (by kernel_rfl) rfl ?_
              refine TL_pass rfl rfl rfl rfl rfl rfl rfl ?_
              refine TL_nil ?_
              refine TZ_pure 39 (by kernel_rfl) rfl rfl rfl rfl rfl (op_pick_false rfl rfl) ?_
              refine TZ_pure 40 (by kernel_rfl) rfl rfl rfl rfl rfl (op_move rfl) ?_
              refine TZ_pass 41 (by kernel_rfl) rfl rfl rfl rfl rfl rfl rfl rfl ?_
              refine TZ_pass 42 (by kernel_rfl) rfl rfl rfl rfl rfl rfl rfl rfl ?_
              refine TZ_pass 43 (by kernel_rfl) rfl rfl rfl rfl rfl rfl rfl rfl ?_
              refine TZ_pass 44 (by kernel_rfl) rfl rfl rfl rfl rfl rfl rfl rfl ?_
              refine TZ_pass 45 (by kernel_rfl) rfl rfl rfl rfl rfl rfl rfl rfl ?_
              refine TZ_pass 46 (by kernel_rfl) rfl rfl rfl rfl rfl rfl rfl rfl ?_
              refine TZ_pass 47 (by kernel_rfl) rfl rfl rfl rfl rfl rfl rfl rfl ?_
              refine TZ_pass 48 (by kernel_rfl) rfl rfl rfl rfl rfl rfl rfl rfl ?_
              refine TZ_one 49 (by kernel_rfl) rfl ?_
              refine TL_pass rfl rfl rfl rfl rfl rfl rfl ?_
              refine TL_nil ?_
              refine TZ_pure 50 (by kernel_rfl) rfl rfl rfl rfl rfl (op_pick_false rfl rfl) ?_
              refine TZ_pure 51 (by kernel_rfl) rfl rfl rfl rfl rfl (op_assign rfl) ?_
              refine TZ_done (by kernel_rfl) ?_
              refine T_keepH [4] [] rfl rfl rfl rfl (by rw [hF]; rfl) ?_
              refine T_ret ?_
              obtain rfl := someI hm
              refine ⟨[_], [], ⟨rfl, trivial⟩, ?_, rfl, rfl, rfl, rfl⟩
              rfl
          · replace hm := condF hq hm
            refine TZ_pass 27 (by kernel_rfl) rfl rfl rfl rfl rfl rfl rfl rfl ?_
            refine TZ_pass 28 (by kernel_rfl) rfl rfl rfl rfl rfl rfl rfl rfl ?_
            refine TZ_pass 29 (by kernel_rfl) rfl rfl rfl rfl rfl rfl rfl rfl ?_
            refine TZ_pass 30 (by kernel_rfl) rfl rfl rfl rfl rfl rfl rfl rfl ?_
            refine TZ_one 31 (by kernel_rfl) rfl ?_
            refine TL_pass rfl rfl rfl rfl rfl rfl rfl ?_
            refine TL_nil ?_
            refine TZ_pure 32 (by kernel_rfl) rfl rfl rfl rfl rfl (op_pick_false rfl rfl) ?_
            refine TZ_pure 33 (by kernel_rfl) rfl rfl rfl rfl rfl (op_move rfl) ?_
            refine TZ_pass 34 (by kernel_rfl) rfl rfl rfl rfl rfl rfl rfl rfl ?_
            refine TZ_pass 35 (by kernel_rfl) rfl rfl rfl rfl rfl rfl rfl rfl ?_
            refine TZ_pass 36 (by kernel_rfl) rfl rfl rfl rfl rfl rfl rfl rfl ?_
            refine TZ_pass 37 (by kernel_rfl) rfl rfl rfl rfl rfl rfl rfl rfl ?_
            refine TZ_one 38 (by kernel_rfl) rfl ?_
            refine TL_pass rfl rfl rfl rfl rfl rfl rfl ?_
            refine TL_nil ?_
            refine TZ_pure 39 (by kernel_rfl) rfl rfl rfl rfl rfl (op_pick_false rfl rfl) ?_
            refine TZ_pure 40 (by kernel_rfl) rfl rfl rfl rfl rfl (op_move rfl) ?_
            refine TZ_pass 41 (by kernel_rfl) rfl rfl rfl rfl rfl rfl rfl rfl ?_
            refine TZ_pass 42 (by kernel_rfl) rfl rfl rfl rfl rfl rfl rfl rfl ?_
            refine TZ_pass 43 (by kernel_rfl) rfl rfl rfl rfl rfl rfl rfl rfl ?_
            refine TZ_pass 44 (by kernel_rfl) rfl rfl rfl rfl rfl rfl rfl rfl ?_
            refine TZ_pass 45 (by kernel_rfl) rfl rfl rfl rfl rfl rfl rfl rfl ?_
            refine TZ_pass 46 (by kernel_rfl) rfl rfl rfl rfl rfl rfl rfl rfl ?_
            refine TZ_pass 47 (by kernel_rfl) rfl rfl rfl rfl rfl rfl rfl rfl ?_
            refine TZ_pass 48 (by kernel_rfl) rfl rfl rfl rfl rfl rfl rfl rfl ?_
            refine TZ_one 49 (by kernel_rfl) rfl ?_
            refine TL_pass rfl rfl rfl rfl rfl rfl rfl ?_
            refine TL_nil ?_
            refine TZ_pure 50 (by kernel_rfl) rfl rfl rfl rfl rfl (op_pick_false rfl rfl) ?_
            refine TZ_pure 51 (by kernel_rfl) rfl rfl rfl rfl rfl (op_assign rfl) ?_
            refine TZ_done (by kernel_rfl) ?_
            refine T_keepH [4] [] rfl rfl rfl rfl (by rw [hF]; rfl) ?_
            refine T_ret ?_
            obtain rfl := someI hm
            refine ⟨[_], [], ⟨rfl, trivial⟩, ?_, rfl, rfl, rfl, rfl⟩
            rfl
        · replace hm := condF hq hm
          refine TZ_pass 20 (by kernel_rfl) rfl rfl rfl rfl rfl rfl rfl rfl ?_
          refine TZ_pass 21 (by kernel_rfl) rfl rfl rfl rfl rfl rfl rfl rfl ?_
          refine TZ_pass 22 (by kernel_rfl) rfl rfl rfl rfl rfl rfl rfl rfl ?_
          refine TZ_pass 23 (by kernel_rfl) rfl rfl rfl rfl rfl rfl rfl rfl ?_
          refine TZ_one 24 (by kernel_rfl) rfl ?_
          refine TL_pass rfl rfl rfl rfl rfl rfl rfl ?_
          refine TL_nil ?_
          refine TZ_pure 25 (by kernel_rfl) rfl rfl rfl rfl rfl (op_pick_false rfl rfl) ?_
          refine TZ_pure 26 (by kernel_rfl) rfl rfl rfl rfl rfl (op_move rfl) ?_
          refine TZ_pass 27 (by kernel_rfl) rfl rfl rfl rfl rfl rfl rfl rfl ?_
          refine TZ_pass 28 (by kernel_rfl) rfl rfl rfl rfl rfl rfl rfl rfl ?_
          refine TZ_pass 29 (by kernel_rfl) rfl rfl rfl rfl rfl rfl rfl rfl ?_
          refine TZ_pass 30 (by kernel_rfl) rfl rfl rfl rfl rfl rfl rfl rfl ?_
          refine TZ_one 31 (by kernel_rfl) rfl ?_
          refine TL_pass rfl rfl rfl rfl rfl rfl rfl ?_
          refine TL_nil ?_
          refine TZ_pure 32 (by kernel_rfl) rfl rfl rfl rfl rfl (op_pick_false rfl rfl) ?_
          refine TZ_pure 33 (by kernel_rfl) rfl rfl rfl rfl rfl (op_move rfl) ?_
          refine TZ_pass 34 (by kernel_rfl) rfl rfl rfl rfl rfl rfl rfl rfl ?_
          refine TZ_pass 35 (by kernel_rfl) rfl rfl rfl rfl rfl rfl rfl rfl ?_
          refine TZ_pass 36 (by kernel_rfl) rfl rfl rfl rfl rfl rfl rfl rfl ?_
          refine TZ_pass 37 (by kernel_rfl) rfl rfl rfl rfl rfl rfl rfl rfl ?_
          refine TZ_one 38 (by kernel_rfl) rfl ?_
          refine TL_pass rfl rfl rfl rfl rfl rfl rfl ?_
          refine TL_nil ?_
          refine TZ_pure 39 (by kernel_rfl) rfl rfl rfl rfl rfl (op_pick_false rfl rfl) ?_
          refine TZ_pure 40 (by kernel_rfl) rfl rfl rfl rfl rfl (op_move rfl) ?_
          refine TZ_pass 41 (by kernel_rfl) rfl rfl rfl rfl rfl rfl rfl rfl ?_
          refine TZ_pass 42 (by kernel_rfl) rfl rfl rfl rfl rfl rfl rfl rfl ?_
          refine TZ_pass 43 (by kernel_rfl) rfl rfl rfl rfl rfl rfl rfl rfl ?_
          refine TZ_pass 44 (by kernel_rfl) rfl rfl rfl rfl rfl rfl rfl rfl ?_
          refine TZ_pass 45 (by kernel_rfl) rfl rfl rfl rfl rfl rfl rfl rfl ?_
          refine TZ_pass 46 (by kernel_rfl) rfl rfl rfl rfl rfl rfl rfl rfl ?_
          refine TZ_pass 47 (by kernel_rfl) rfl rfl rfl rfl rfl rfl rfl rfl ?_
          refine TZ_pass 48 (by kernel_rfl) rfl rfl rfl rfl rfl rfl rfl rfl ?_
          refine TZ_one 49 (by kernel_rfl) rfl ?_
          refine TL_pass rfl rfl rfl rfl rfl rfl rfl ?_
          refine TL_nil ?_
          refine TZ_pure 50 (by kernel_rfl) rfl rfl rfl rfl rfl (op_pick_false rfl rfl) ?_
          refine TZ_pure 51 (by kernel_rfl) rfl rfl rfl rfl rfl (op_assign rfl) ?_
          refine TZ_done (by kernel_rfl) ?_
          refine T_keepH [4] [] rfl rfl rfl rfl (by rw [hF]; rfl) ?_
          refine T_ret ?_
          obtain rfl := someI hm
          refine ⟨[_], [], ⟨rfl, trivial⟩, ?_, rfl, rfl, rfl, rfl⟩
          rfl
      · replace hm := condF hq hm
        refine TZ_pass 13 (by kernel_rfl) rfl rfl rfl rfl rfl rfl rfl rfl ?_
        refine TZ_pass 14 (by kernel_rfl) rfl rfl rfl rfl rfl rfl rfl rfl ?_
        refine TZ_pass 15 (by kernel_rfl) rfl rfl rfl rfl rfl rfl rfl rfl ?_
        refine TZ_pass 16 (by kernel_rfl) rfl rfl rfl rfl rfl rfl rfl rfl ?_
        refine TZ_pass 17 (by kernel_rfl) rfl rfl rfl rfl rfl rfl rfl rfl ?_
        refine TZ_pure 18 (by kernel_rfl) rfl rfl rfl rfl rfl (op_pick_false rfl rfl) ?_
        refine TZ_pure 19 (by kernel_rfl) rfl rfl rfl rfl rfl (op_move rfl) ?_
        refine TZ_pass 20 (by kernel_rfl) rfl rfl rfl rfl rfl rfl rfl rfl ?_
        refine TZ_pass 21 (by kernel_rfl) rfl rfl rfl rfl rfl rfl rfl rfl ?_
        refine TZ_pass 22 (by kernel_rfl) rfl rfl rfl rfl rfl rfl rfl rfl ?_
        refine TZ_pass 23 (by kernel_rfl) rfl rfl rfl rfl rfl rfl rfl rfl ?_
        refine TZ_one 24 (by kernel_rfl) rfl ?_
        refine TL_pass rfl rfl rfl rfl rfl rfl rfl ?_
        refine TL_nil ?_
        refine TZ_pure 25 (by kernel_rfl) rfl rfl rfl rfl rfl (op_pick_false rfl rfl) ?_
        refine TZ_pure 26 (by kernel_rfl) rfl rfl rfl rfl rfl (op_move rfl) ?_
        refine TZ_pass 27 (by kernel_rfl) rfl rfl rfl rfl rfl rfl rfl rfl ?_
        refine TZ_pass 28 (by kernel_rfl) rfl rfl rfl rfl rfl rfl rfl rfl ?_
        refine TZ_pass 29 (by kernel_rfl) rfl rfl rfl rfl rfl rfl rfl rfl ?_
        refine TZ_pass 30 (by kernel_rfl) rfl rfl rfl rfl rfl rfl rfl rfl ?_
        refine TZ_one 31 (by kernel_rfl) rfl ?_
        refine TL_pass rfl rfl rfl rfl rfl rfl rfl ?_
        refine TL_nil ?_
        refine TZ_pure 32 (by kernel_rfl) rfl rfl rfl rfl rfl (op_pick_false rfl rfl) ?_
        refine TZ_pure 33 (by kernel_rfl) rfl rfl rfl rfl rfl (op_move rfl) ?_
        refine TZ_pass 34 (by kernel_rfl) rfl rfl rfl rfl rfl rfl rfl rfl ?_
        refine TZ_pass 35 (by kernel_rfl) rfl rfl rfl rfl rfl rfl rfl rfl ?_
        refine TZ_pass 36 (by kernel_rfl) rfl rfl rfl rfl rfl rfl rfl rfl ?_
        refine TZ_pass 37 (by kernel_rfl) rfl rfl rfl rfl rfl rfl rfl rfl ?_
        refine TZ_one 38 (by kernel_rfl) rfl ?_
        refine TL_pass rfl rfl rfl rfl rfl rfl rfl ?_
        refine TL_nil ?_
        refine TZ_pure 39 (by kernel_rfl) rfl rfl rfl rfl rfl (op_pick_false rfl rfl) ?_
        refine TZ_pure 40 (by kernel_rfl) rfl rfl rfl rfl rfl (op_move rfl) ?_
        refine TZ_pass 41 (by kernel_rfl) rfl rfl rfl rfl rfl rfl rfl rfl ?_
        refine TZ_pass 42 (by kernel_rfl) rfl rfl rfl rfl rfl rfl rfl rfl ?_
        refine TZ_pass 43 (by kernel_rfl) rfl rfl rfl rfl rfl rfl rfl rfl ?_
        refine TZ_pass 44 (by kernel_rfl) rfl rfl rfl rfl rfl rfl rfl rfl ?_
        refine TZ_pass 45 (by kernel_rfl) rfl rfl rfl rfl rfl rfl rfl rfl ?_
        refine TZ_pass 46 (by kernel_rfl) rfl rfl rfl rfl rfl rfl rfl rfl ?_
        refine TZ_pass 47 (by kernel_rfl) rfl rfl rfl rfl rfl rfl rfl rfl ?_
        refine TZ_pass 48 (by kernel_rfl) rfl rfl rfl rfl rfl rfl rfl rfl ?_
        refine TZ_one 49 (by kernel_rfl) rfl ?_
        refine TL_pass rfl rfl rfl rfl rfl rfl rfl ?_
        refine TL_nil ?_
        refine TZ_pure 50 (by kernel_rfl) rfl rfl rfl rfl rfl (op_pick_false rfl rfl) ?_
        refine TZ_pure 51 (by kernel_rfl) rfl rfl rfl rfl rfl (op_assign rfl) ?_
        refine TZ_done (by kernel_rfl) ?_
        refine T_keepH [4] [] rfl rfl rfl rfl (by rw [hF]; rfl) ?_
        refine T_ret ?_
        obtain rfl := someI hm
        refine ⟨[_], [], ⟨rfl, trivial⟩, ?_, rfl, rfl, rfl, rfl⟩
        rfl
    · replace hm := condF hq hm
      refine TZ_pass 6 (by kernel_rfl) rfl rfl rfl rfl rfl rfl rfl rfl ?_
      refine TZ_pass 7 (by kernel_rfl) rfl rfl rfl rfl rfl rfl rfl rfl ?_
      refine TZ_pass 8 (by kernel_rfl) rfl rfl rfl rfl rfl rfl rfl rfl ?_
      refine TZ_pass 9 (by kernel_rfl) rfl rfl rfl rfl rfl rfl rfl rfl ?_
      refine TZ_pass 10 (by kernel_rfl) rfl rfl rfl rfl rfl rfl rfl rfl ?_
      refine TZ_pure 11 (by kernel_rfl) rfl rfl rfl rfl rfl (op_pick_false rfl rfl) ?_
      refine TZ_pure 12 (by kernel_rfl) rfl rfl rfl rfl rfl (op_move rfl) ?_
      refine TZ_pass 13 (by kernel_rfl) rfl rfl rfl rfl rfl rfl rfl rfl ?_
      refine TZ_pass 14 (by kernel_rfl) rfl rfl rfl rfl rfl rfl rfl rfl ?_
      refine TZ_pass 15 (by kernel_rfl) rfl rfl rfl rfl rfl rfl rfl rfl ?_
      refine TZ_pass 16 (by kernel_rfl) rfl rfl rfl rfl rfl rfl rfl rfl ?_
      refine TZ_pass 17 (by kernel_rfl) rfl rfl rfl rfl rfl rfl rfl rfl ?_
      refine TZ_pure 18 (by kernel_rfl) rfl rfl rfl rfl rfl (op_pick_false rfl rfl) ?_
      refine TZ_pure 19 (by kernel_rfl) rfl rfl rfl rfl rfl (op_move rfl) ?_
      refine TZ_pass 20 (by kernel_rfl) rfl rfl rfl rfl rfl rfl rfl rfl ?_
      refine TZ_pass 21 (by kernel_rfl) rfl rfl rfl rfl rfl rfl rfl rfl ?_
      refine TZ_pass 22 (by kernel_rfl) rfl rfl rfl rfl rfl rfl rfl rfl ?_
      refine TZ_pass 23 (by kernel_rfl) rfl rfl rfl rfl rfl rfl rfl rfl ?_
      refine TZ_one 24 (by kernel_rfl) rfl ?_
      refine TL_pass rfl rfl rfl rfl rfl rfl rfl ?_
      refine TL_nil ?_
      refine TZ_pure 25 (by kernel_rfl) rfl rfl rfl rfl rfl (op_pick_false rfl rfl) ?_
      refine TZ_pure 26 (by kernel_rfl) rfl rfl rfl rfl rfl (op_move rfl) ?_
      refine TZ_pass 27 (by kernel_rfl) rfl rfl rfl rfl rfl rfl rfl rfl ?_
      refine TZ_pass 28 (by kernel_rfl) rfl rfl rfl rfl rfl rfl rfl rfl ?_
      refine TZ_pass 29 (by kernel_rfl) rfl rfl rfl rfl rfl rfl rfl rfl ?_
      refine TZ_pass 30 (by kernel_rfl) rfl rfl rfl rfl rfl rfl rfl rfl ?_
      refine TZ_one 31 (by kernel_rfl) rfl ?_
      refine TL_pass rfl rfl rfl rfl rfl rfl rfl ?_
      refine TL_nil ?_
      refine TZ_pure 32 (by kernel_rfl) rfl rfl rfl rfl rfl (op_pick_false rfl rfl) ?_
      refine TZ_pure 33 (by kernel_rfl) rfl rfl rfl rfl rfl (op_move rfl) ?_
      refine TZ_pass 34 (by kernel_rfl) rfl rfl rfl rfl rfl rfl rfl rfl ?_
      refine TZ_pass 35 (by kernel_rfl) rfl rfl rfl rfl rfl rfl rfl rfl ?_
      refine TZ_pass 36 (by kernel_rfl) rfl rfl rfl rfl rfl rfl rfl rfl ?_
      refine TZ_pass 37 (by kernel_rfl) rfl rfl rfl rfl rfl rfl rfl rfl ?_
      refine TZ_one 38 (by kernel_rfl) rfl ?_
      refine TL_pass rfl rfl rfl rfl rfl rfl rfl ?_
      refine TL_nil ?_
      refine TZ_pure 39 (by kernel_rfl) rfl rfl rfl rfl rfl (op_pick_false rfl rfl) ?_
      refine TZ_pure 40 (by kernel_rfl) rfl rfl rfl rfl rfl (op_move rfl) ?_
      refine TZ_pass 41 (by kernel_rfl) rfl rfl rfl rfl rfl rfl rfl rfl ?_
      refine TZ_pass 42 (by kernel_rfl) rfl rfl rfl rfl rfl rfl rfl rfl ?_
      refine TZ_pass 43 (by kernel_rfl) rfl rfl rfl rfl rfl rfl rfl rfl ?_
      refine TZ_pass 44 (by kernel_rfl) rfl rfl rfl rfl rfl rfl rfl rfl ?_
      refine TZ_pass 45 (by kernel_rfl) rfl rfl rfl rfl rfl rfl rfl rfl ?_
      refine TZ_pass 46 (by kernel_rfl) rfl rfl rfl rfl rfl rfl rfl rfl ?_
      refine TZ_pass 47 (by kernel_rfl) rfl rfl rfl rfl rfl rfl rfl rfl ?_
      refine TZ_pass 48 (by kernel_rfl) rfl rfl rfl rfl rfl rfl rfl rfl ?_
      refine TZ_one 49 (by kernel_rfl) rfl ?_
      refine TL_pass rfl rfl rfl rfl rfl rfl rfl ?_
      refine TL_nil ?_
      refine TZ_pure 50 (by kernel_rfl) rfl rfl rfl rfl rfl (op_pick_false rfl rfl) ?_
      refine TZ_pure 51 (by kernel_rfl) rfl rfl rfl rfl rfl (op_assign rfl) ?_
      refine TZ_done (by kernel_rfl) ?_
      refine T_keepH [4] [] rfl rfl rfl rfl (by rw [hF]; rfl) ?_
      refine T_ret ?_
      obtain rfl := someI hm
      refine ⟨[_], [], ⟨rfl, trivial⟩, ?_, rfl, rfl, rfl, rfl⟩
      rfl
  · refine T_drawZ [10, 11] mix (by kernel_rfl) rfl ?_
    obtain ⟨o7, ho7, hm⟩ := bindS hm
    obtain ⟨o11, ho11, hm⟩ := bindS hm
    refine TZ_pure 0 (by kernel_rfl) rfl rfl rfl rfl rfl (op_move rfl) ?_
    refine TZ_trAt 7 (x' := .cp [.int .i64 o7.Stmt.Kind, .int .i64 o7.Stmt.Var, .int .i64 o7.Stmt.Event, .int .i64 o7.Stmt.Sum.Const, .sl 1 (List.map a_i64 o7.Stmt.Sum.Coeffs), .int .i64 o7.Stmt.Index.Const, .sl 1 (List.map a_i64 o7.Stmt.Index.Coeffs), .sl 2 (List.map a_Term o7.Stmt.Facts), .int .i64 o7.at_, .sl 1 (List.map a_Ptree o7.kids)]) rfl (TrR_open (un_tree_eq ho7)) rfl ?_
    refine TZ_pure 1 (by kernel_rfl) rfl rfl rfl rfl rfl (op_nilCheck rfl rfl) ?_
    refine TZ_pure 2 (by kernel_rfl) rfl rfl rfl rfl rfl (op_fieldAddrC (n := 8) fa132_0 rfl rfl rfl) ?_
    refine TZ_pure 3 (by kernel_rfl) rfl rfl rfl rfl rfl (op_load_agg ag77 sz77 rfl rfl rfl) ?_
    refine TZ_pure 4 (by kernel_rfl) rfl rfl rfl rfl rfl (op_move rfl) ?_
    refine TZ_trAt 11 (x' := .cp [.int .i64 o11.Stmt.Kind, .int .i64 o11.Stmt.Var, .int .i64 o11.Stmt.Event, .int .i64 o11.Stmt.Sum.Const, .sl 1 (List.map a_i64 o11.Stmt.Sum.Coeffs), .int .i64 o11.Stmt.Index.Const, .sl 1 (List.map a_i64 o11.Stmt.Index.Coeffs), .sl 2 (List.map a_Term o11.Stmt.Facts), .int .i64 o11.at_, .sl 1 (List.map a_Ptree o11.kids)]) rfl (TrR_open (un_tree_eq ho11)) rfl ?_
    refine TZ_pure 5 (by kernel_rfl) rfl rfl rfl rfl rfl (op_nilCheck rfl rfl) ?_
    refine TZ_pure 6 (by kernel_rfl) rfl rfl rfl rfl rfl (op_fieldAddrC (n := 8) fa132_0 rfl rfl rfl) ?_
    refine TZ_cut 3 [true, true, true, true, true, true, true, true, true, false, false, false] ⟨[(0, a_Ptree p0), (1, a_Ptree p1), (4, .bool false), (5, .ptr 1691 0 0), (7, .cp [.int .i64 o7.Stmt.Kind, .int .i64 o7.Stmt.Var, .int .i64 o7.Stmt.Event, .int .i64 o7.Stmt.Sum.Const, .sl 1 (List.map a_i64 o7.Stmt.Sum.Coeffs), .int .i64 o7.Stmt.Index.Const, .sl 1 (List.map a_i64 o7.Stmt.Index.Coeffs), .sl 2 (List.map a_Term o7.Stmt.Facts), .int .i64 o7.at_, .sl 1 (List.map a_Ptree o7.kids)]), (8, .cp [.int .i64 o7.Stmt.Kind, .int .i64 o7.Stmt.Var, .int .i64 o7.Stmt.Event, .int .i64 o7.Stmt.Sum.Const, .sl 1 (List.map a_i64 o7.Stmt.Sum.Coeffs), .int .i64 o7.Stmt.Index.Const, .sl 1 (List.map a_i64 o7.Stmt.Index.Coeffs), .sl 2 (List.map a_Term o7.Stmt.Facts), .int .i64 o7.at_, .sl 1 (List.map a_Ptree o7.kids)]), (9, .cp [.int .i64 o7.Stmt.Kind, .int .i64 o7.Stmt.Var, .int .i64 o7.Stmt.Event, .int .i64 o7.Stmt.Sum.Const, .sl 1 (List.map a_i64 o7.Stmt.Sum.Coeffs), .int .i64 o7.Stmt.Index.Const, .sl 1 (List.map a_i64 o7.Stmt.Index.Coeffs), .sl 2 (List.map a_Term o7.Stmt.Facts)]), (10, .agg [.int .i64 o7.Stmt.Kind, .int .i64 o7.Stmt.Var, .int .i64 o7.Stmt.Event, .int .i64 o7.Stmt.Sum.Const, .sl 1 (List.map a_i64 o7.Stmt.Sum.Coeffs), .int .i64 o7.Stmt.Index.Const, .sl 1 (List.map a_i64 o7.Stmt.Index.Coeffs), .sl 2 (List.map a_Term o7.Stmt.Facts)]), (11, .cp [.int .i64 o11.Stmt.Kind, .int .i64 o11.Stmt.Var, .int .i64 o11.Stmt.Event, .int .i64 o11.Stmt.Sum.Const, .sl 1 (List.map a_i64 o11.Stmt.Sum.Coeffs), .int .i64 o11.Stmt.Index.Const, .sl 1 (List.map a_i64 o11.Stmt.Index.Coeffs), .sl 2 (List.map a_Term o11.Stmt.Facts), .int .i64 o11.at_, .sl 1 (List.map a_Ptree o11.kids)]), (12, .cp [.int .i64 o11.Stmt.Kind, .int .i64 o11.Stmt.Var, .int .i64 o11.Stmt.Event, .int .i64 o11.Stmt.Sum.Const, .sl 1 (List.map a_i64 o11.Stmt.Sum.Coeffs), .int .i64 o11.Stmt.Index.Const, .sl 1 (List.map a_i64 o11.Stmt.Index.Coeffs), .sl 2 (List.map a_Term o11.Stmt.Facts), .int .i64 o11.at_, .sl 1 (List.map a_Ptree o11.kids)]), (13, .cp [.int .i64 o11.Stmt.Kind, .int .i64 o11.Stmt.Var, .int .i64 o11.Stmt.Event, .int .i64 o11.Stmt.Sum.Const, .sl 1 (List.map a_i64 o11.Stmt.Sum.Coeffs), .int .i64 o11.Stmt.Index.Const, .sl 1 (List.map a_i64 o11.Stmt.Index.Coeffs), .sl 2 (List.map a_Term o11.Stmt.Facts)]), (14, .agg [.int .i64 o11.Stmt.Kind, .int .i64 o11.Stmt.Var, .int .i64 o11.Stmt.Event, .int .i64 o11.Stmt.Sum.Const, .sl 1 (List.map a_i64 o11.Stmt.Sum.Coeffs), .int .i64 o11.Stmt.Index.Const, .sl 1 (List.map a_i64 o11.Stmt.Index.Coeffs), .sl 2 (List.map a_Term o11.Stmt.Facts)])], [(1691, .box [.int .i64 (0 : Int), .int .i64 (0 : Int), .int .i64 (0 : Int), .int .i64 (0 : Int), .snil, .int .i64 (0 : Int), .snil, .snil])]⟩ ?_ (fun hS970_0 => ?_)
    · refine TZ_one 9 (by kernel_rfl) rfl ?_
      refine TL_alloc 1771 z77 rfl rfl rfl rfl rfl rfl rfl ?_
      refine TL_nil ?_
      refine TZ_one 10 (by kernel_rfl) rfl ?_
      refine TL_store_box sz77 rfl rfl rfl rfl rfl rfl rfl rfl rfl ?_
      refine TL_nil ?_
      refine TZ_one 11 (by kernel_rfl) rfl ?_
      refine TL_store_box sz77 rfl rfl rfl rfl rfl rfl rfl rfl rfl ?_
      refine TL_nil ?_
      refine TZ_done (by kernel_rfl) ?_
      refine T_keepH [0, 1, 5, 6] [1691, 1771] rfl rfl rfl rfl (by rw [hF]; rfl) ?_
      refine T_ren [(1691, 731), (1771, 811)] rfl rfl rfl (by rw [hF]; rfl) ?_
      exact hj0 (o7.Stmt.Kind, o7.Stmt.Var, o7.Stmt.Event, o7.Stmt.Sum.Const, o7.Stmt.Sum.Coeffs, o7.Stmt.Index.Const, o7.Stmt.Index.Coeffs, o7.Stmt.Facts, o11.Stmt.Kind, o11.Stmt.Var, o11.Stmt.Event, o11.Stmt.Sum.Const, o11.Stmt.Sum.Coeffs, o11.Stmt.Index.Const, o11.Stmt.Index.Coeffs, o11.Stmt.Facts) hm
    refine TZ_cut 3 [true, true, true, true, true, true, true, true, false, true, false, false] ⟨[(0, a_Ptree p0), (1, a_Ptree p1), (4, .bool false), (6, .ptr 1771 0 0), (7, .cp [.int .i64 o7.Stmt.Kind, .int .i64 o7.Stmt.Var, .int .i64 o7.Stmt.Event, .int .i64 o7.Stmt.Sum.Const, .sl 1 (List.map a_i64 o7.Stmt.Sum.Coeffs), .int .i64 o7.Stmt.Index.Const, .sl 1 (List.map a_i64 o7.Stmt.Index.Coeffs), .sl 2 (List.map a_Term o7.Stmt.Facts), .int .i64 o7.at_, .sl 1 (List.map a_Ptree o7.kids)]), (8, .cp [.int .i64 o7.Stmt.Kind, .int .i64 o7.Stmt.Var, .int .i64 o7.Stmt.Event, .int .i64 o7.Stmt.Sum.Const, .sl 1 (List.map a_i64 o7.Stmt.Sum.Coeffs), .int .i64 o7.Stmt.Index.Const, .sl 1 (List.map a_i64 o7.Stmt.Index.Coeffs), .sl 2 (List.map a_Term o7.Stmt.Facts), .int .i64 o7.at_, .sl 1 (List.map a_Ptree o7.kids)]), (9, .cp [.int .i64 o7.Stmt.Kind, .int .i64 o7.Stmt.Var, .int .i64 o7.Stmt.Event, .int .i64 o7.Stmt.Sum.Const, .sl 1 (List.map a_i64 o7.Stmt.Sum.Coeffs), .int .i64 o7.Stmt.Index.Const, .sl 1 (List.map a_i64 o7.Stmt.Index.Coeffs), .sl 2 (List.map a_Term o7.Stmt.Facts)]), (10, .agg [.int .i64 o7.Stmt.Kind, .int .i64 o7.Stmt.Var, .int .i64 o7.Stmt.Event, .int .i64 o7.Stmt.Sum.Const, .sl 1 (List.map a_i64 o7.Stmt.Sum.Coeffs), .int .i64 o7.Stmt.Index.Const, .sl 1 (List.map a_i64 o7.Stmt.Index.Coeffs), .sl 2 (List.map a_Term o7.Stmt.Facts)]), (11, .cp [.int .i64 o11.Stmt.Kind, .int .i64 o11.Stmt.Var, .int .i64 o11.Stmt.Event, .int .i64 o11.Stmt.Sum.Const, .sl 1 (List.map a_i64 o11.Stmt.Sum.Coeffs), .int .i64 o11.Stmt.Index.Const, .sl 1 (List.map a_i64 o11.Stmt.Index.Coeffs), .sl 2 (List.map a_Term o11.Stmt.Facts), .int .i64 o11.at_, .sl 1 (List.map a_Ptree o11.kids)]), (12, .cp [.int .i64 o11.Stmt.Kind, .int .i64 o11.Stmt.Var, .int .i64 o11.Stmt.Event, .int .i64 o11.Stmt.Sum.Const, .sl 1 (List.map a_i64 o11.Stmt.Sum.Coeffs), .int .i64 o11.Stmt.Index.Const, .sl 1 (List.map a_i64 o11.Stmt.Index.Coeffs), .sl 2 (List.map a_Term o11.Stmt.Facts), .int .i64 o11.at_, .sl 1 (List.map a_Ptree o11.kids)]), (13, .cp [.int .i64 o11.Stmt.Kind, .int .i64 o11.Stmt.Var, .int .i64 o11.Stmt.Event, .int .i64 o11.Stmt.Sum.Const, .sl 1 (List.map a_i64 o11.Stmt.Sum.Coeffs), .int .i64 o11.Stmt.Index.Const, .sl 1 (List.map a_i64 o11.Stmt.Index.Coeffs), .sl 2 (List.map a_Term o11.Stmt.Facts)]), (14, .agg [.int .i64 o11.Stmt.Kind, .int .i64 o11.Stmt.Var, .int .i64 o11.Stmt.Event, .int .i64 o11.Stmt.Sum.Const, .sl 1 (List.map a_i64 o11.Stmt.Sum.Coeffs), .int .i64 o11.Stmt.Index.Const, .sl 1 (List.map a_i64 o11.Stmt.Index.Coeffs), .sl 2 (List.map a_Term o11.Stmt.Facts)])], [(1771, .box [.int .i64 (0 : Int), .int .i64 (0 : Int), .int .i64 (0 : Int), .int .i64 (0 : Int), .snil, .int .i64 (0 : Int), .snil, .snil])]⟩ ?_ (fun hS970_1 => ?_)
    · refine TZ_one 8 (by kernel_rfl) rfl ?_
      refine TL_alloc 1691 z77 rfl rfl rfl rfl rfl rfl rfl ?_
      refine TL_nil ?_
      refine TZ_one 10 (by kernel_rfl) rfl ?_
      refine TL_store_box sz77 rfl rfl rfl rfl rfl rfl rfl rfl rfl ?_
      refine TL_nil ?_
      refine TZ_one 11 (by kernel_rfl) rfl ?_
      refine TL_store_box sz77 rfl rfl rfl rfl rfl rfl rfl rfl rfl ?_
      refine TL_nil ?_
      refine TZ_done (by kernel_rfl) ?_
      refine T_keepH [0, 1, 5, 6] [1691, 1771] rfl rfl rfl rfl (by rw [hF]; rfl) ?_
      refine T_ren [(1691, 731), (1771, 811)] rfl rfl rfl (by rw [hF]; rfl) ?_
      exact hj0 (o7.Stmt.Kind, o7.Stmt.Var, o7.Stmt.Event, o7.Stmt.Sum.Const, o7.Stmt.Sum.Coeffs, o7.Stmt.Index.Const, o7.Stmt.Index.Coeffs, o7.Stmt.Facts, o11.Stmt.Kind, o11.Stmt.Var, o11.Stmt.Event, o11.Stmt.Sum.Const, o11.Stmt.Sum.Coeffs, o11.Stmt.Index.Const, o11.Stmt.Index.Coeffs, o11.Stmt.Facts) hm
    refine TZ_cut 4 [true, true, true, true, true, true, true, true, false, false, false, false] ⟨[(0, a_Ptree p0), (1, a_Ptree p1), (4, .bool false), (7, .cp [.int .i64 o7.Stmt.Kind, .int .i64 o7.Stmt.Var, .int .i64 o7.Stmt.Event, .int .i64 o7.Stmt.Sum.Const, .sl 1 (List.map a_i64 o7.Stmt.Sum.Coeffs), .int .i64 o7.Stmt.Index.Const, .sl 1 (List.map a_i64 o7.Stmt.Index.Coeffs), .sl 2 (List.map a_Term o7.Stmt.Facts), .int .i64 o7.at_, .sl 1 (List.map a_Ptree o7.kids)]), (8, .cp [.int .i64 o7.Stmt.Kind, .int .i64 o7.Stmt.Var, .int .i64 o7.Stmt.Event, .int .i64 o7.Stmt.Sum.Const, .sl 1 (List.map a_i64 o7.Stmt.Sum.Coeffs), .int .i64 o7.Stmt.Index.Const, .sl 1 (List.map a_i64 o7.Stmt.Index.Coeffs), .sl 2 (List.map a_Term o7.Stmt.Facts), .int .i64 o7.at_, .sl 1 (List.map a_Ptree o7.kids)]), (9, .cp [.int .i64 o7.Stmt.Kind, .int .i64 o7.Stmt.Var, .int .i64 o7.Stmt.Event, .int .i64 o7.Stmt.Sum.Const, .sl 1 (List.map a_i64 o7.Stmt.Sum.Coeffs), .int .i64 o7.Stmt.Index.Const, .sl 1 (List.map a_i64 o7.Stmt.Index.Coeffs), .sl 2 (List.map a_Term o7.Stmt.Facts)]), (10, .agg [.int .i64 o7.Stmt.Kind, .int .i64 o7.Stmt.Var, .int .i64 o7.Stmt.Event, .int .i64 o7.Stmt.Sum.Const, .sl 1 (List.map a_i64 o7.Stmt.Sum.Coeffs), .int .i64 o7.Stmt.Index.Const, .sl 1 (List.map a_i64 o7.Stmt.Index.Coeffs), .sl 2 (List.map a_Term o7.Stmt.Facts)]), (11, .cp [.int .i64 o11.Stmt.Kind, .int .i64 o11.Stmt.Var, .int .i64 o11.Stmt.Event, .int .i64 o11.Stmt.Sum.Const, .sl 1 (List.map a_i64 o11.Stmt.Sum.Coeffs), .int .i64 o11.Stmt.Index.Const, .sl 1 (List.map a_i64 o11.Stmt.Index.Coeffs), .sl 2 (List.map a_Term o11.Stmt.Facts), .int .i64 o11.at_, .sl 1 (List.map a_Ptree o11.kids)]), (12, .cp [.int .i64 o11.Stmt.Kind, .int .i64 o11.Stmt.Var, .int .i64 o11.Stmt.Event, .int .i64 o11.Stmt.Sum.Const, .sl 1 (List.map a_i64 o11.Stmt.Sum.Coeffs), .int .i64 o11.Stmt.Index.Const, .sl 1 (List.map a_i64 o11.Stmt.Index.Coeffs), .sl 2 (List.map a_Term o11.Stmt.Facts), .int .i64 o11.at_, .sl 1 (List.map a_Ptree o11.kids)]), (13, .cp [.int .i64 o11.Stmt.Kind, .int .i64 o11.Stmt.Var, .int .i64 o11.Stmt.Event, .int .i64 o11.Stmt.Sum.Const, .sl 1 (List.map a_i64 o11.Stmt.Sum.Coeffs), .int .i64 o11.Stmt.Index.Const, .sl 1 (List.map a_i64 o11.Stmt.Index.Coeffs), .sl 2 (List.map a_Term o11.Stmt.Facts)]), (14, .agg [.int .i64 o11.Stmt.Kind, .int .i64 o11.Stmt.Var, .int .i64 o11.Stmt.Event, .int .i64 o11.Stmt.Sum.Const, .sl 1 (List.map a_i64 o11.Stmt.Sum.Coeffs), .int .i64 o11.Stmt.Index.Const, .sl 1 (List.map a_i64 o11.Stmt.Index.Coeffs), .sl 2 (List.map a_Term o11.Stmt.Facts)])], []⟩ ?_ (fun hS970_2 => ?_)
    · refine TZ_each [8, 9] (by kernel_rfl) rfl ?_
      refine ⟨?_, ?_⟩
      · refine ⟨_, rfl, ?_⟩
        refine TL_alloc 1691 z77 rfl rfl rfl rfl rfl rfl rfl ?_
        refine TL_nil ?_
        refine TZ_keepH [0, 1, 4, 5, 7, 8, 9, 10, 11, 12, 13, 14] [1691] rfl rfl rfl rfl (by rw [hF]; rfl) ?_
        exact hS970_0
      · refine ⟨_, rfl, ?_⟩
        refine TL_alloc 1771 z77 rfl rfl rfl rfl rfl rfl rfl ?_
        refine TL_nil ?_
        refine TZ_keepH [0, 1, 4, 6, 7, 8, 9, 10, 11, 12, 13, 14] [1771] rfl rfl rfl rfl (by rw [hF]; rfl) ?_
        exact hS970_1
    refine TZ_cut 2 [true, true, true, true, true, true, true, true, true, true, false, false] ⟨[(0, a_Ptree p0), (1, a_Ptree p1), (4, .bool false), (5, .ptr 1691 0 0), (6, .ptr 1771 0 0), (7, .cp [.int .i64 o7.Stmt.Kind, .int .i64 o7.Stmt.Var, .int .i64 o7.Stmt.Event, .int .i64 o7.Stmt.Sum.Const, .sl 1 (List.map a_i64 o7.Stmt.Sum.Coeffs), .int .i64 o7.Stmt.Index.Const, .sl 1 (List.map a_i64 o7.Stmt.Index.Coeffs), .sl 2 (List.map a_Term o7.Stmt.Facts), .int .i64 o7.at_, .sl 1 (List.map a_Ptree o7.kids)]), (8, .cp [.int .i64 o7.Stmt.Kind, .int .i64 o7.Stmt.Var, .int .i64 o7.Stmt.Event, .int .i64 o7.Stmt.Sum.Const, .sl 1 (List.map a_i64 o7.Stmt.Sum.Coeffs), .int .i64 o7.Stmt.Index.Const, .sl 1 (List.map a_i64 o7.Stmt.Index.Coeffs), .sl 2 (List.map a_Term o7.Stmt.Facts), .int .i64 o7.at_, .sl 1 (List.map a_Ptree o7.kids)]), (9, .cp [.int .i64 o7.Stmt.Kind, .int .i64 o7.Stmt.Var, .int .i64 o7.Stmt.Event, .int .i64 o7.Stmt.Sum.Const, .sl 1 (List.map a_i64 o7.Stmt.Sum.Coeffs), .int .i64 o7.Stmt.Index.Const, .sl 1 (List.map a_i64 o7.Stmt.Index.Coeffs), .sl 2 (List.map a_Term o7.Stmt.Facts)]), (10, .agg [.int .i64 o7.Stmt.Kind, .int .i64 o7.Stmt.Var, .int .i64 o7.Stmt.Event, .int .i64 o7.Stmt.Sum.Const, .sl 1 (List.map a_i64 o7.Stmt.Sum.Coeffs), .int .i64 o7.Stmt.Index.Const, .sl 1 (List.map a_i64 o7.Stmt.Index.Coeffs), .sl 2 (List.map a_Term o7.Stmt.Facts)]), (11, .cp [.int .i64 o11.Stmt.Kind, .int .i64 o11.Stmt.Var, .int .i64 o11.Stmt.Event, .int .i64 o11.Stmt.Sum.Const, .sl 1 (List.map a_i64 o11.Stmt.Sum.Coeffs), .int .i64 o11.Stmt.Index.Const, .sl 1 (List.map a_i64 o11.Stmt.Index.Coeffs), .sl 2 (List.map a_Term o11.Stmt.Facts), .int .i64 o11.at_, .sl 1 (List.map a_Ptree o11.kids)]), (12, .cp [.int .i64 o11.Stmt.Kind, .int .i64 o11.Stmt.Var, .int .i64 o11.Stmt.Event, .int .i64 o11.Stmt.Sum.Const, .sl 1 (List.map a_i64 o11.Stmt.Sum.Coeffs), .int .i64 o11.Stmt.Index.Const, .sl 1 (List.map a_i64 o11.Stmt.Index.Coeffs), .sl 2 (List.map a_Term o11.Stmt.Facts), .int .i64 o11.at_, .sl 1 (List.map a_Ptree o11.kids)]), (13, .cp [.int .i64 o11.Stmt.Kind, .int .i64 o11.Stmt.Var, .int .i64 o11.Stmt.Event, .int .i64 o11.Stmt.Sum.Const, .sl 1 (List.map a_i64 o11.Stmt.Sum.Coeffs), .int .i64 o11.Stmt.Index.Const, .sl 1 (List.map a_i64 o11.Stmt.Index.Coeffs), .sl 2 (List.map a_Term o11.Stmt.Facts)]), (14, .agg [.int .i64 o11.Stmt.Kind, .int .i64 o11.Stmt.Var, .int .i64 o11.Stmt.Event, .int .i64 o11.Stmt.Sum.Const, .sl 1 (List.map a_i64 o11.Stmt.Sum.Coeffs), .int .i64 o11.Stmt.Index.Const, .sl 1 (List.map a_i64 o11.Stmt.Index.Coeffs), .sl 2 (List.map a_Term o11.Stmt.Facts)])], [(1691, .box [.int .i64 (0 : Int), .int .i64 (0 : Int), .int .i64 (0 : Int), .int .i64 (0 : Int), .snil, .int .i64 (0 : Int), .snil, .snil]), (1771, .box [.int .i64 (0 : Int), .int .i64 (0 : Int), .int .i64 (0 : Int), .int .i64 (0 : Int), .snil, .int .i64 (0 : Int), .snil, .snil])]⟩ ?_ (fun hS970_3 => ?_)
    · refine TZ_one 10 (by kernel_rfl) rfl ?_
      refine TL_store_box sz77 rfl rfl rfl rfl rfl rfl rfl rfl rfl ?_
      refine TL_nil ?_
      refine TZ_one 11 (by kernel_rfl) rfl ?_
      refine TL_store_box sz77 rfl rfl rfl rfl rfl rfl rfl rfl rfl ?_
      refine TL_nil ?_
      refine TZ_done (by kernel_rfl) ?_
      refine T_keepH [0, 1, 5, 6] [1691, 1771] rfl rfl rfl rfl (by rw [hF]; rfl) ?_
      refine T_ren [(1691, 731), (1771, 811)] rfl rfl rfl (by rw [hF]; rfl) ?_
      exact hj0 (o7.Stmt.Kind, o7.Stmt.Var, o7.Stmt.Event, o7.Stmt.Sum.Const, o7.Stmt.Sum.Coeffs, o7.Stmt.Index.Const, o7.Stmt.Index.Coeffs, o7.Stmt.Facts, o11.Stmt.Kind, o11.Stmt.Var, o11.Stmt.Event, o11.Stmt.Sum.Const, o11.Stmt.Sum.Coeffs, o11.Stmt.Index.Const, o11.Stmt.Index.Coeffs, o11.Stmt.Facts) hm
    refine TZ_cut 2 [true, true, true, true, true, true, true, false, true, true, true, false] ⟨[(0, a_Ptree p0), (1, a_Ptree p1), (4, .bool false), (5, .ptr 1691 0 0), (6, .ptr 1771 0 0), (7, .cp [.int .i64 o7.Stmt.Kind, .int .i64 o7.Stmt.Var, .int .i64 o7.Stmt.Event, .int .i64 o7.Stmt.Sum.Const, .sl 1 (List.map a_i64 o7.Stmt.Sum.Coeffs), .int .i64 o7.Stmt.Index.Const, .sl 1 (List.map a_i64 o7.Stmt.Index.Coeffs), .sl 2 (List.map a_Term o7.Stmt.Facts), .int .i64 o7.at_, .sl 1 (List.map a_Ptree o7.kids)]), (8, .cp [.int .i64 o7.Stmt.Kind, .int .i64 o7.Stmt.Var, .int .i64 o7.Stmt.Event, .int .i64 o7.Stmt.Sum.Const, .sl 1 (List.map a_i64 o7.Stmt.Sum.Coeffs), .int .i64 o7.Stmt.Index.Const, .sl 1 (List.map a_i64 o7.Stmt.Index.Coeffs), .sl 2 (List.map a_Term o7.Stmt.Facts), .int .i64 o7.at_, .sl 1 (List.map a_Ptree o7.kids)]), (9, .cp [.int .i64 o7.Stmt.Kind, .int .i64 o7.Stmt.Var, .int .i64 o7.Stmt.Event, .int .i64 o7.Stmt.Sum.Const, .sl 1 (List.map a_i64 o7.Stmt.Sum.Coeffs), .int .i64 o7.Stmt.Index.Const, .sl 1 (List.map a_i64 o7.Stmt.Index.Coeffs), .sl 2 (List.map a_Term o7.Stmt.Facts)]), (10, .agg [.int .i64 o7.Stmt.Kind, .int .i64 o7.Stmt.Var, .int .i64 o7.Stmt.Event, .int .i64 o7.Stmt.Sum.Const, .sl 1 (List.map a_i64 o7.Stmt.Sum.Coeffs), .int .i64 o7.Stmt.Index.Const, .sl 1 (List.map a_i64 o7.Stmt.Index.Coeffs), .sl 2 (List.map a_Term o7.Stmt.Facts)]), (11, .cp [.int .i64 o11.Stmt.Kind, .int .i64 o11.Stmt.Var, .int .i64 o11.Stmt.Event, .int .i64 o11.Stmt.Sum.Const, .sl 1 (List.map a_i64 o11.Stmt.Sum.Coeffs), .int .i64 o11.Stmt.Index.Const, .sl 1 (List.map a_i64 o11.Stmt.Index.Coeffs), .sl 2 (List.map a_Term o11.Stmt.Facts), .int .i64 o11.at_, .sl 1 (List.map a_Ptree o11.kids)]), (12, .cp [.int .i64 o11.Stmt.Kind, .int .i64 o11.Stmt.Var, .int .i64 o11.Stmt.Event, .int .i64 o11.Stmt.Sum.Const, .sl 1 (List.map a_i64 o11.Stmt.Sum.Coeffs), .int .i64 o11.Stmt.Index.Const, .sl 1 (List.map a_i64 o11.Stmt.Index.Coeffs), .sl 2 (List.map a_Term o11.Stmt.Facts), .int .i64 o11.at_, .sl 1 (List.map a_Ptree o11.kids)]), (13, .cp [.int .i64 o11.Stmt.Kind, .int .i64 o11.Stmt.Var, .int .i64 o11.Stmt.Event, .int .i64 o11.Stmt.Sum.Const, .sl 1 (List.map a_i64 o11.Stmt.Sum.Coeffs), .int .i64 o11.Stmt.Index.Const, .sl 1 (List.map a_i64 o11.Stmt.Index.Coeffs), .sl 2 (List.map a_Term o11.Stmt.Facts)])], [(1691, .box [.int .i64 o7.Stmt.Kind, .int .i64 o7.Stmt.Var, .int .i64 o7.Stmt.Event, .int .i64 o7.Stmt.Sum.Const, .sl 1 (List.map a_i64 o7.Stmt.Sum.Coeffs), .int .i64 o7.Stmt.Index.Const, .sl 1 (List.map a_i64 o7.Stmt.Index.Coeffs), .sl 2 (List.map a_Term o7.Stmt.Facts)]), (1771, .box [.int .i64 (0 : Int), .int .i64 (0 : Int), .int .i64 (0 : Int), .int .i64 (0 : Int), .snil, .int .i64 (0 : Int), .snil, .snil])]⟩ ?_ (fun hS970_4 => ?_)
    · refine TZ_pure 7 (by kernel_rfl) rfl rfl rfl rfl rfl (op_load_agg ag77 sz77 rfl rfl rfl) ?_
      refine TZ_one 11 (by kernel_rfl) rfl ?_
      refine TL_store_box sz77 rfl rfl rfl rfl rfl rfl rfl rfl rfl ?_
      refine TL_nil ?_
      refine TZ_done (by kernel_rfl) ?_
      refine T_keepH [0, 1, 5, 6] [1691, 1771] rfl rfl rfl rfl (by rw [hF]; rfl) ?_
      refine T_ren [(1691, 731), (1771, 811)] rfl rfl rfl (by rw [hF]; rfl) ?_
      exact hj0 (o7.Stmt.Kind, o7.Stmt.Var, o7.Stmt.Event, o7.Stmt.Sum.Const, o7.Stmt.Sum.Coeffs, o7.Stmt.Index.Const, o7.Stmt.Index.Coeffs, o7.Stmt.Facts, o11.Stmt.Kind, o11.Stmt.Var, o11.Stmt.Event, o11.Stmt.Sum.Const, o11.Stmt.Sum.Coeffs, o11.Stmt.Index.Const, o11.Stmt.Index.Coeffs, o11.Stmt.Facts) hm
    refine TZ_cut 3 [true, true, true, true, true, true, true, false, true, true, false, false] ⟨[(0, a_Ptree p0), (1, a_Ptree p1), (4, .bool false), (5, .ptr 1691 0 0), (6, .ptr 1771 0 0), (7, .cp [.int .i64 o7.Stmt.Kind, .int .i64 o7.Stmt.Var, .int .i64 o7.Stmt.Event, .int .i64 o7.Stmt.Sum.Const, .sl 1 (List.map a_i64 o7.Stmt.Sum.Coeffs), .int .i64 o7.Stmt.Index.Const, .sl 1 (List.map a_i64 o7.Stmt.Index.Coeffs), .sl 2 (List.map a_Term o7.Stmt.Facts), .int .i64 o7.at_, .sl 1 (List.map a_Ptree o7.kids)]), (8, .cp [.int .i64 o7.Stmt.Kind, .int .i64 o7.Stmt.Var, .int .i64 o7.Stmt.Event, .int .i64 o7.Stmt.Sum.Const, .sl 1 (List.map a_i64 o7.Stmt.Sum.Coeffs), .int .i64 o7.Stmt.Index.Const, .sl 1 (List.map a_i64 o7.Stmt.Index.Coeffs), .sl 2 (List.map a_Term o7.Stmt.Facts), .int .i64 o7.at_, .sl 1 (List.map a_Ptree o7.kids)]), (9, .cp [.int .i64 o7.Stmt.Kind, .int .i64 o7.Stmt.Var, .int .i64 o7.Stmt.Event, .int .i64 o7.Stmt.Sum.Const, .sl 1 (List.map a_i64 o7.Stmt.Sum.Coeffs), .int .i64 o7.Stmt.Index.Const, .sl 1 (List.map a_i64 o7.Stmt.Index.Coeffs), .sl 2 (List.map a_Term o7.Stmt.Facts)]), (10, .agg [.int .i64 o7.Stmt.Kind, .int .i64 o7.Stmt.Var, .int .i64 o7.Stmt.Event, .int .i64 o7.Stmt.Sum.Const, .sl 1 (List.map a_i64 o7.Stmt.Sum.Coeffs), .int .i64 o7.Stmt.Index.Const, .sl 1 (List.map a_i64 o7.Stmt.Index.Coeffs), .sl 2 (List.map a_Term o7.Stmt.Facts)]), (11, .cp [.int .i64 o11.Stmt.Kind, .int .i64 o11.Stmt.Var, .int .i64 o11.Stmt.Event, .int .i64 o11.Stmt.Sum.Const, .sl 1 (List.map a_i64 o11.Stmt.Sum.Coeffs), .int .i64 o11.Stmt.Index.Const, .sl 1 (List.map a_i64 o11.Stmt.Index.Coeffs), .sl 2 (List.map a_Term o11.Stmt.Facts), .int .i64 o11.at_, .sl 1 (List.map a_Ptree o11.kids)]), (12, .cp [.int .i64 o11.Stmt.Kind, .int .i64 o11.Stmt.Var, .int .i64 o11.Stmt.Event, .int .i64 o11.Stmt.Sum.Const, .sl 1 (List.map a_i64 o11.Stmt.Sum.Coeffs), .int .i64 o11.Stmt.Index.Const, .sl 1 (List.map a_i64 o11.Stmt.Index.Coeffs), .sl 2 (List.map a_Term o11.Stmt.Facts), .int .i64 o11.at_, .sl 1 (List.map a_Ptree o11.kids)]), (13, .cp [.int .i64 o11.Stmt.Kind, .int .i64 o11.Stmt.Var, .int .i64 o11.Stmt.Event, .int .i64 o11.Stmt.Sum.Const, .sl 1 (List.map a_i64 o11.Stmt.Sum.Coeffs), .int .i64 o11.Stmt.Index.Const, .sl 1 (List.map a_i64 o11.Stmt.Index.Coeffs), .sl 2 (List.map a_Term o11.Stmt.Facts)])], [(1691, .box [.int .i64 (0 : Int), .int .i64 (0 : Int), .int .i64 (0 : Int), .int .i64 (0 : Int), .snil, .int .i64 (0 : Int), .snil, .snil]), (1771, .box [.int .i64 (0 : Int), .int .i64 (0 : Int), .int .i64 (0 : Int), .int .i64 (0 : Int), .snil, .int .i64 (0 : Int), .snil, .snil])]⟩ ?_ (fun hS970_5 => ?_)
    · refine TZ_each [7, 10] (by kernel_rfl) rfl ?_
      refine ⟨?_, ?_⟩
      · refine ⟨_, rfl, ?_⟩
        refine TL_pure rfl rfl rfl rfl (op_load_agg ag77 sz77 rfl rfl rfl) ?_
        refine TL_nil ?_
        refine TZ_keepH [0, 1, 4, 5, 6, 7, 8, 9, 10, 11, 12, 13, 14] [1691, 1771] rfl rfl rfl rfl (by rw [hF]; rfl) ?_
        exact hS970_3
      · refine ⟨_, rfl, ?_⟩
        refine TL_store_box sz77 rfl rfl rfl rfl rfl rfl rfl rfl rfl ?_
        refine TL_nil ?_
        refine TZ_keepH [0, 1, 4, 5, 6, 7, 8, 9, 10, 11, 12, 13] [1691, 1771] rfl rfl rfl rfl (by rw [hF]; rfl) ?_
        exact hS970_4
    refine TZ_cut 4 [true, true, true, true, true, true, true, false, true, false, false, false] ⟨[(0, a_Ptree p0), (1, a_Ptree p1), (4, .bool false), (5, .ptr 1691 0 0), (7, .cp [.int .i64 o7.Stmt.Kind, .int .i64 o7.Stmt.Var, .int .i64 o7.Stmt.Event, .int .i64 o7.Stmt.Sum.Const, .sl 1 (List.map a_i64 o7.Stmt.Sum.Coeffs), .int .i64 o7.Stmt.Index.Const, .sl 1 (List.map a_i64 o7.Stmt.Index.Coeffs), .sl 2 (List.map a_Term o7.Stmt.Facts), .int .i64 o7.at_, .sl 1 (List.map a_Ptree o7.kids)]), (8, .cp [.int .i64 o7.Stmt.Kind, .int .i64 o7.Stmt.Var, .int .i64 o7.Stmt.Event, .int .i64 o7.Stmt.Sum.Const, .sl 1 (List.map a_i64 o7.Stmt.Sum.Coeffs), .int .i64 o7.Stmt.Index.Const, .sl 1 (List.map a_i64 o7.Stmt.Index.Coeffs), .sl 2 (List.map a_Term o7.Stmt.Facts), .int .i64 o7.at_, .sl 1 (List.map a_Ptree o7.kids)]), (9, .cp [.int .i64 o7.Stmt.Kind, .int .i64 o7.Stmt.Var, .int .i64 o7.Stmt.Event, .int .i64 o7.Stmt.Sum.Const, .sl 1 (List.map a_i64 o7.Stmt.Sum.Coeffs), .int .i64 o7.Stmt.Index.Const, .sl 1 (List.map a_i64 o7.Stmt.Index.Coeffs), .sl 2 (List.map a_Term o7.Stmt.Facts)]), (10, .agg [.int .i64 o7.Stmt.Kind, .int .i64 o7.Stmt.Var, .int .i64 o7.Stmt.Event, .int .i64 o7.Stmt.Sum.Const, .sl 1 (List.map a_i64 o7.Stmt.Sum.Coeffs), .int .i64 o7.Stmt.Index.Const, .sl 1 (List.map a_i64 o7.Stmt.Index.Coeffs), .sl 2 (List.map a_Term o7.Stmt.Facts)]), (11, .cp [.int .i64 o11.Stmt.Kind, .int .i64 o11.Stmt.Var, .int .i64 o11.Stmt.Event, .int .i64 o11.Stmt.Sum.Const, .sl 1 (List.map a_i64 o11.Stmt.Sum.Coeffs), .int .i64 o11.Stmt.Index.Const, .sl 1 (List.map a_i64 o11.Stmt.Index.Coeffs), .sl 2 (List.map a_Term o11.Stmt.Facts), .int .i64 o11.at_, .sl 1 (List.map a_Ptree o11.kids)]), (12, .cp [.int .i64 o11.Stmt.Kind, .int .i64 o11.Stmt.Var, .int .i64 o11.Stmt.Event, .int .i64 o11.Stmt.Sum.Const, .sl 1 (List.map a_i64 o11.Stmt.Sum.Coeffs), .int .i64 o11.Stmt.Index.Const, .sl 1 (List.map a_i64 o11.Stmt.Index.Coeffs), .sl 2 (List.map a_Term o11.Stmt.Facts), .int .i64 o11.at_, .sl 1 (List.map a_Ptree o11.kids)]), (13, .cp [.int .i64 o11.Stmt.Kind, .int .i64 o11.Stmt.Var, .int .i64 o11.Stmt.Event, .int .i64 o11.Stmt.Sum.Const, .sl 1 (List.map a_i64 o11.Stmt.Sum.Coeffs), .int .i64 o11.Stmt.Index.Const, .sl 1 (List.map a_i64 o11.Stmt.Index.Coeffs), .sl 2 (List.map a_Term o11.Stmt.Facts)])], [(1691, .box [.int .i64 (0 : Int), .int .i64 (0 : Int), .int .i64 (0 : Int), .int .i64 (0 : Int), .snil, .int .i64 (0 : Int), .snil, .snil])]⟩ ?_ (fun hS970_6 => ?_)
    · refine TZ_each [7, 9] (by kernel_rfl) rfl ?_
      refine ⟨?_, ?_⟩
      · refine ⟨_, rfl, ?_⟩
        refine TL_pure rfl rfl rfl rfl (op_load_agg ag77 sz77 rfl rfl rfl) ?_
        refine TL_nil ?_
        refine TZ_keepH [0, 1, 4, 5, 7, 8, 9, 10, 11, 12, 13, 14] [1691] rfl rfl rfl rfl (by rw [hF]; rfl) ?_
        exact hS970_0
      · refine ⟨_, rfl, ?_⟩
        refine TL_alloc 1771 z77 rfl rfl rfl rfl rfl rfl rfl ?_
        refine TL_nil ?_
        refine TZ_keepH [0, 1, 4, 5, 6, 7, 8, 9, 10, 11, 12, 13] [1691, 1771] rfl rfl rfl rfl (by rw [hF]; rfl) ?_
        exact hS970_5
    refine TZ_cut 4 [true, true, true, true, true, true, true, false, false, true, false, false] ⟨[(0, a_Ptree p0), (1, a_Ptree p1), (4, .bool false), (6, .ptr 1771 0 0), (7, .cp [.int .i64 o7.Stmt.Kind, .int .i64 o7.Stmt.Var, .int .i64 o7.Stmt.Event, .int .i64 o7.Stmt.Sum.Const, .sl 1 (List.map a_i64 o7.Stmt.Sum.Coeffs), .int .i64 o7.Stmt.Index.Const, .sl 1 (List.map a_i64 o7.Stmt.Index.Coeffs), .sl 2 (List.map a_Term o7.Stmt.Facts), .int .i64 o7.at_, .sl 1 (List.map a_Ptree o7.kids)]), (8, .cp [.int .i64 o7.Stmt.Kind, .int .i64 o7.Stmt.Var, .int .i64 o7.Stmt.Event, .int .i64 o7.Stmt.Sum.Const, .sl 1 (List.map a_i64 o7.Stmt.Sum.Coeffs), .int .i64 o7.Stmt.Index.Const, .sl 1 (List.map a_i64 o7.Stmt.Index.Coeffs), .sl 2 (List.map a_Term o7.Stmt.Facts), .int .i64 o7.at_, .sl 1 (List.map a_Ptree o7.kids)]), (9, .cp [.int .i64 o7.Stmt.Kind, .int .i64 o7.Stmt.Var, .int .i64 o7.Stmt.Event, .int .i64 o7.Stmt.Sum.Const, .sl 1 (List.map a_i64 o7.Stmt.Sum.Coeffs), .int .i64 o7.Stmt.Index.Const, .sl 1 (List.map a_i64 o7.Stmt.Index.Coeffs), .sl 2 (List.map a_Term o7.Stmt.Facts)]), (10, .agg [.int .i64 o7.Stmt.Kind, .int .i64 o7.Stmt.Var, .int .i64 o7.Stmt.Event, .int .i64 o7.Stmt.Sum.Const, .sl 1 (List.map a_i64 o7.Stmt.Sum.Coeffs), .int .i64 o7.Stmt.Index.Const, .sl 1 (List.map a_i64 o7.Stmt.Index.Coeffs), .sl 2 (List.map a_Term o7.Stmt.Facts)]), (11, .cp [.int .i64 o11.Stmt.Kind, .int .i64 o11.Stmt.Var, .int .i64 o11.Stmt.Event, .int .i64 o11.Stmt.Sum.Const, .sl 1 (List.map a_i64 o11.Stmt.Sum.Coeffs), .int .i64 o11.Stmt.Index.Const, .sl 1 (List.map a_i64 o11.Stmt.Index.Coeffs), .sl 2 (List.map a_Term o11.Stmt.Facts), .int .i64 o11.at_, .sl 1 (List.map a_Ptree o11.kids)]), (12, .cp [.int .i64 o11.Stmt.Kind, .int .i64 o11.Stmt.Var, .int .i64 o11.Stmt.Event, .int .i64 o11.Stmt.Sum.Const, .sl 1 (List.map a_i64 o11.Stmt.Sum.Coeffs), .int .i64 o11.Stmt.Index.Const, .sl 1 (List.map a_i64 o11.Stmt.Index.Coeffs), .sl 2 (List.map a_Term o11.Stmt.Facts), .int .i64 o11.at_, .sl 1 (List.map a_Ptree o11.kids)]), (13, .cp [.int .i64 o11.Stmt.Kind, .int .i64 o11.Stmt.Var, .int .i64 o11.Stmt.Event, .int .i64 o11.Stmt.Sum.Const, .sl 1 (List.map a_i64 o11.Stmt.Sum.Coeffs), .int .i64 o11.Stmt.Index.Const, .sl 1 (List.map a_i64 o11.Stmt.Index.Coeffs), .sl 2 (List.map a_Term o11.Stmt.Facts)])], [(1771, .box [.int .i64 (0 : Int), .int .i64 (0 : Int), .int .i64 (0 : Int), .int .i64 (0 : Int), .snil, .int .i64 (0 : Int), .snil, .snil])]⟩ ?_ (fun hS970_7 => ?_)
    · refine TZ_each [7, 8] (by kernel_rfl) rfl ?_
      refine ⟨?_, ?_⟩
      · refine ⟨_, rfl, ?_⟩
        refine TL_pure rfl rfl rfl rfl (op_load_agg ag77 sz77 rfl rfl rfl) ?_
        refine TL_nil ?_
        refine TZ_keepH [0, 1, 4, 6, 7, 8, 9, 10, 11, 12, 13, 14] [1771] rfl rfl rfl rfl (by rw [hF]; rfl) ?_
        exact hS970_1
      · refine ⟨_, rfl, ?_⟩
        refine TL_alloc 1691 z77 rfl rfl rfl rfl rfl rfl rfl ?_
        refine TL_nil ?_
        refine TZ_keepH [0, 1, 4, 5, 6, 7, 8, 9, 10, 11, 12, 13] [1691, 1771] rfl rfl rfl rfl (by rw [hF]; rfl) ?_
        exact hS970_5
    refine TZ_each [7, 8, 9] (by kernel_rfl) rfl ?_
    refine ⟨?_, ?_, ?_⟩
    · refine ⟨_, rfl, ?_⟩
      refine TL_pure rfl rfl rfl rfl (op_load_agg ag77 sz77 rfl rfl rfl) ?_
      refine TL_nil ?_
      refine TZ_keepH [0, 1, 4, 7, 8, 9, 10, 11, 12, 13, 14] [] rfl rfl rfl rfl (by rw [hF]; rfl) ?_
      exact hS970_2
    · refine ⟨_, rfl, ?_⟩
      refine TL_alloc 1691 z77 rfl rfl rfl rfl rfl rfl rfl ?_
      refine TL_nil ?_
      refine TZ_keepH [0, 1, 4, 5, 7, 8, 9, 10, 11, 12, 13] [1691] rfl rfl rfl rfl (by rw [hF]; rfl) ?_
      exact hS970_6
    · refine ⟨_, rfl, ?_⟩
      refine TL_alloc 1771 z77 rfl rfl rfl rfl rfl rfl rfl ?_
      refine TL_nil ?_
      refine TZ_keepH [0, 1, 4, 6, 7, 8, 9, 10, 11, 12, 13] [1771] rfl rfl rfl rfl (by rw [hF]; rfl) ?_
      exact hS970_7
theorem c_impl_sameTree : ∀ (n : Nat) (p0 : Ptree) (p1 : Ptree) (out : Bool), m_impl_sameTree n p0 p1 = some out → ACall Try.prog 104 [a_Ptree p0, a_Ptree p1] [] (.bool out) [] := by
  intro n
  induction n with
  | zero => intro p0 p1 out hm; cases hm
  | succ n ih => intro p0 p1 out hm; exact c_impl_sameTree_F (m_impl_sameTree n) ih p0 p1 out hm
theorem c_impl_absolute (p0 : Int) (out : Int) (hm : m_impl_absolute p0 = some out) : ACall Try.prog 142 [.int .i64 p0] [] (.int .i64 out) [] := by
  refine ACall.intro Try.func142 rfl Try.ntmps142 rfl (fun F hF => ?_)
  unfold m_impl_absolute at hm
  refine T_seq ?_
  refine T_region ?_
  refine TL_pure rfl rfl rfl rfl (op_assign rfl) ?_
  refine TL_nil ?_
  refine T_seq ?_
  refine T_region ?_
  refine TL_pure rfl rfl rfl rfl (op_move rfl) ?_
  refine TL_pure rfl rfl rfl rfl (op_move rfl) ?_
  refine TL_pure rfl rfl rfl rfl (op_negW rfl) ?_
  refine TL_pure rfl rfl rfl rfl (op_max rfl rfl) ?_
  refine TL_pure rfl rfl rfl rfl (op_assign rfl) ?_
  refine TL_nil ?_
  refine T_keepH [2] [] rfl rfl rfl rfl (by rw [hF]; rfl) ?_
  refine T_ret ?_
  obtain rfl := someI hm
  refine ⟨[_], [], ⟨rfl, trivial⟩, ?_, rfl, rfl, rfl, rfl⟩
  rfl
theorem c_impl_gcd (p0 : List Int) (out : Int) (hm : m_impl_gcd p0 = some out) : ACall Try.prog 130 [.sl 1 (List.map a_i64 p0)] [] (.int .i64 out) [] := by
  refine ACall.intro Try.func130 rfl Try.ntmps130 rfl (fun F hF => ?_)
  unfold m_impl_gcd at hm
  refine T_seq ?_
  refine T_region ?_
  refine TL_pure rfl rfl rfl rfl (op_assign rfl) ?_
  refine TL_nil ?_
  refine T_seq ?_
  refine T_region ?_
  refine TL_pure rfl rfl rfl rfl (op_assign rfl) ?_
  refine TL_nil ?_
  refine T_seq ?_
  refine T_seq ?_
  refine T_region ?_
  refine TL_pure rfl rfl rfl rfl (op_move rfl) ?_
  refine TL_pure rfl rfl rfl rfl (op_lenT Try.underlying29 rfl (List.length_map _)) ?_
  refine TL_fact (fun _ _ _ hr => RelP.slLen (i := 8) rfl hr) (fun hlen9 => ?_)
  rw [List.length_map] at hlen9
  refine TL_pure rfl rfl rfl rfl (op_move rfl) ?_
  refine TL_nil ?_
  refine T_block ?_
  refine T_keepH [3, 8, 9, 10] [] rfl rfl rfl rfl (by rw [hF]; rfl) ?_
  refine T_loop ?_
  obtain ⟨u0, hl0, hm⟩ := bindS hm
  refine TR_forL2 p0 (m_impl_gcd_L0) (fun (s0 : Int) => s0) (fun n0 (s0 : Int) => ⟨[(3, .int .i64 s0), (8, .sl 1 (List.map a_i64 p0)), (9, .int .i64 (p0.length : Int)), (10, .int .i64 (n0 : Int))], []⟩) (fun u0 => .exit 0) (fun u0 => ⟨[(3, .int .i64 u0)], []⟩) (fun u0 => m_impl_gcd_A0 u0 = some out) hl0 hm (fun u0 hm => ?_) (fun hx0 s0 hm => ?_) (fun hx0 n0 x0 s0 c0 hxn0 hlt0 hm hc0 => ?_)
  · unfold m_impl_gcd_A0 at hm
    refine T_seq ?_
    refine T_region ?_
    refine TL_pure rfl rfl rfl rfl (op_move rfl) ?_
    refine TL_pure rfl rfl rfl rfl (op_assign rfl) ?_
    refine TL_nil ?_
    refine T_keepH [2] [] rfl rfl rfl rfl (by rw [hF]; rfl) ?_
    refine T_ret ?_
    obtain rfl := someI hm
    refine ⟨[_], [], ⟨rfl, trivial⟩, ?_, rfl, rfl, rfl, rfl⟩
    rfl
  · refine T_seq ?_
    refine T_region ?_
    refine TL_pure rfl rfl rfl rfl (op_lss rfl rfl) ?_
    refine TL_nil ?_
    refine T_seq ?_
    refine T_if_false rfl (decide_eq_false (by simp)) ?_
    refine T_keepH [3] [] rfl rfl rfl rfl (by rw [hF]; rfl) ?_
    refine T_exit ?_
    exact hx0 s0 hm
  · unfold m_impl_gcd_L0 at hm
    refine T_seq ?_
    refine T_region ?_
    refine TL_pure rfl rfl rfl rfl (op_lss rfl rfl) ?_
    refine TL_nil ?_
    refine T_seq ?_
    refine T_if_true rfl (decide_eq_true (Int.ofNat_lt.2 hlt0)) ?_
    refine T_skip ?_
    refine T_seq ?_
    refine T_block ?_
    refine T_seq ?_
    refine T_region ?_
    refine TL_pure rfl rfl rfl rfl (op_index_sl el29 rfl rfl rfl (get_map hxn0) rfl) ?_
    refine TL_pure rfl rfl rfl rfl (op_load_one ag2 rfl rfl) ?_
    refine TL_pure rfl rfl rfl rfl (op_assign rfl) ?_
    refine TL_nil ?_
    refine T_seq ?_
    refine T_region ?_
    refine TL_pure rfl rfl rfl rfl (op_move rfl) ?_
    refine TL_pure rfl rfl rfl rfl (op_move rfl) ?_
    obtain ⟨r16, hr16, hm⟩ := bindS hm
    refine TL_callF (c_impl_absolute x0 r16 hr16) Try.call142 rfl rfl rfl rfl rfl ?_
    refine TL_pure rfl rfl rfl rfl (op_assign rfl) ?_
    refine TL_pure rfl rfl rfl rfl (op_assign rfl) ?_
    refine TL_nil ?_
    refine T_seq ?_
    refine T_block ?_
    refine T_keepH [6, 7, 8, 9, 10] [] rfl rfl rfl rfl (by rw [hF]; rfl) ?_
    refine T_loop ?_
    obtain ⟨u1, hl1, hm⟩ := bindS hm
    refine TR_iter2 (m_impl_gcd_L1) (fun (s1 : Int × Int) => ⟨[(6, .int .i64 s1.1), (7, .int .i64 s1.2), (8, .sl 1 (List.map a_i64 p0)), (9, .int .i64 (p0.length : Int)), (10, .int .i64 (n0 : Int))], []⟩) (fun u1 => .exit 2) (fun u1 => ⟨[(6, .int .i64 u1), (8, .sl 1 (List.map a_i64 p0)), (9, .int .i64 (p0.length : Int)), (10, .int .i64 (n0 : Int))], []⟩) (fun u1 => m_impl_gcd_A1 u1 = some c0) hl1 hm (fun u1 hm => ?_) (fun hx1 s1 c1 hm hc1 => ?_)
    · unfold m_impl_gcd_A1 at hm
      refine T_region ?_
      refine TL_pure rfl rfl rfl rfl (op_move rfl) ?_
      refine TL_pure rfl rfl rfl rfl (op_assign rfl) ?_
      refine TL_nil ?_
      refine T_region ?_
      refine TL_pure rfl rfl rfl rfl (op_addN rfl rfl (Nat.lt_of_lt_of_le hlt0 hlen9)) ?_
      refine TL_pure rfl rfl rfl rfl (op_move rfl) ?_
      refine TL_nil ?_
      refine TR_keepH [3, 8, 9, 10] [] rfl rfl rfl rfl (by rw [hF]; rfl) ?_
      obtain rfl := someI hm
      have hn := CtlOK_next hc0
      exact hn _ rfl
    · unfold m_impl_gcd_L1 at hm
      refine T_seq ?_
      refine T_seq ?_
      refine T_region ?_
      refine TL_pure rfl rfl rfl rfl (op_move rfl) ?_
      refine TL_pure rfl rfl rfl rfl (op_neq rfl rfl) ?_
      refine TL_nil ?_
      refine T_cond rfl (fun hq => ?_) (fun hq => ?_)
      · replace hm := condT hq hm
        refine T_skip ?_
        refine T_block ?_
        refine T_drawZ [] mix (by kernel_rfl) rfl ?_
        obtain ⟨q22, hq22, hm⟩ := bindS hm
        refine TZ_pure 0 (by kernel_rfl) rfl rfl rfl rfl rfl (op_move rfl) ?_
        refine TZ_pure 1 (by kernel_rfl) rfl rfl rfl rfl rfl (op_move rfl) ?_
        refine TZ_pure 2 (by kernel_rfl) rfl rfl rfl rfl rfl (op_move rfl) ?_
        refine TZ_pure 3 (by kernel_rfl) rfl rfl rfl rfl rfl (op_remT rfl rfl hq22) ?_
        refine TZ_pure 4 (by kernel_rfl) rfl rfl rfl rfl rfl (op_assign rfl) ?_
        refine TZ_pure 5 (by kernel_rfl) rfl rfl rfl rfl rfl (op_assign rfl) ?_
        refine TZ_done (by kernel_rfl) ?_
        refine TR_keepH [6, 7, 8, 9, 10] [] rfl rfl rfl rfl (by rw [hF]; rfl) ?_
        obtain rfl := someI hm
        have hn := CtlOK_next hc1
        exact hn _ rfl
      · replace hm := condF hq hm
        refine T_keepH [6, 8, 9, 10] [] rfl rfl rfl rfl (by rw [hF]; rfl) ?_
        refine T_exit ?_
        obtain rfl := someI hm
        have hn := CtlOK_out hc1
        exact hx1 s1.1 hn
theorem c_impl_Term_isVariable (p0 : Term) (p1 : Int) (out : Bool) (hm : m_impl_Term_isVariable p0 p1 = some out) : ACall Try.prog 105 [.agg [.int .i64 p0.Const, .sl 1 (List.map a_i64 p0.Coeffs)], .int .i64 p1] [] (.bool out) [] := by
  refine ACall.intro Try.func105 rfl Try.ntmps105 rfl (fun F hF => ?_)
  unfold m_impl_Term_isVariable at hm
  refine T_seq ?_
  refine T_region ?_
  refine TL_box 11 rfl rfl rfl rfl rfl rfl rfl ?_
  refine TL_pure rfl rfl rfl rfl (op_assign rfl) ?_
  refine TL_nil ?_
  refine T_seq ?_
  refine T_seq ?_
  refine T_region ?_
  refine TL_pure rfl rfl rfl rfl (op_fieldAddr fa75_0 rfl rfl) ?_
  refine TL_pure rfl rfl rfl rfl (op_load_one ag2 rfl rfl) ?_
  refine TL_pure rfl rfl rfl rfl (op_neq rfl rfl) ?_
  refine TL_pure rfl rfl rfl rfl (op_move rfl) ?_
  refine TL_join 7 (fun _ : Unit => ⟨[(1, .int .i64 p1), (2, .ptr 11 0 0), (15, .bool ((!decide (p0.Const = (0 : Int))) || (!decide ((p0.Coeffs.length : Int) = (w64 (p1 + (1 : Int)))))))], [(11, .box [.int .i64 p0.Const, .sl 1 (List.map a_i64 p0.Coeffs)])]⟩) (fun _ => True) (fun _ _ => ?_) (fun hjj => ?_)
  · refine TL_pure rfl rfl rfl rfl (op_move rfl) ?_
    refine TL_split 16 rfl rfl rfl (fun hq => ?_) (fun hq => ?_)
    · replace hm := condT hq hm
      refine TL_pass rfl rfl rfl rfl rfl rfl rfl ?_
      refine TL_pass rfl rfl rfl rfl rfl rfl rfl ?_
      refine TL_pass rfl rfl rfl rfl rfl rfl rfl ?_
      refine TL_pass rfl rfl rfl rfl rfl rfl rfl ?_
      refine TL_pass rfl rfl rfl rfl rfl rfl rfl ?_
      refine TL_pass rfl rfl rfl rfl rfl rfl rfl ?_
      refine TL_pure rfl rfl rfl rfl (op_pick_true rfl rfl) ?_
      refine TL_nil ?_
      refine T_cond_true rfl ?_
      refine T_seq ?_
      refine T_region ?_
      refine TL_pure rfl rfl rfl rfl (op_assign rfl) ?_
      refine TL_nil ?_
      refine T_keepH [4] [] rfl rfl rfl rfl (by rw [hF]; rfl) ?_
      refine T_ret ?_
      obtain rfl := someI hm
      refine ⟨[_], [], ⟨rfl, trivial⟩, ?_, rfl, rfl, rfl, rfl⟩
      rfl
    · replace hm := condF hq hm
      refine TL_want rfl rfl ?_
      refine TL_pure rfl rfl rfl rfl (op_fieldAddr fa75_1 rfl rfl) ?_
      refine TL_want rfl rfl ?_
      refine TL_pure rfl rfl rfl rfl (op_load_one ag29 rfl rfl) ?_
      refine TL_want rfl rfl ?_
      refine TL_pure rfl rfl rfl rfl (op_move rfl) ?_
      refine TL_want rfl rfl ?_
      obtain ⟨x20, hx20, hm⟩ := bindS hm
      refine TL_pure rfl rfl rfl rfl (op_indexT el29 rfl rfl hx20 rfl) ?_
      refine TL_want rfl rfl ?_
      refine TL_pure rfl rfl rfl rfl (op_load_one ag2 rfl rfl) ?_
      refine TL_want rfl rfl ?_
      refine TL_pure rfl rfl rfl rfl (op_neq rfl rfl) ?_
      refine TL_pure rfl rfl rfl rfl (op_pick_false rfl rfl) ?_
      refine TL_nil ?_
      refine T_cond rfl (fun hq => ?_) (fun hq => ?_)
      · replace hm := condT hq hm
        refine T_seq ?_
        refine T_region ?_
        refine TL_pure rfl rfl rfl rfl (op_assign rfl) ?_
        refine TL_nil ?_
        refine T_keepH [4] [] rfl rfl rfl rfl (by rw [hF]; rfl) ?_
        refine T_ret ?_
        obtain rfl := someI hm
        refine ⟨[_], [], ⟨rfl, trivial⟩, ?_, rfl, rfl, rfl, rfl⟩
        rfl
      · replace hm := condF hq hm
        refine T_skip ?_
        refine T_seq ?_
        refine T_region ?_
        refine TL_pure rfl rfl rfl rfl (op_fieldAddr fa75_1 rfl rfl) ?_
        refine TL_pure rfl rfl rfl rfl (op_load_one ag29 rfl rfl) ?_
        refine TL_pure rfl rfl rfl rfl (op_move rfl) ?_
        obtain ⟨y27, hy27, hm⟩ := bindS hm
        refine TL_pure rfl rfl rfl rfl (op_sliceI el29 rfl ⟨rfl, ⟨_, rfl⟩⟩ hy27) ?_
        obtain ⟨r28, hr28, hm⟩ := bindS hm
        refine TL_callF (c_impl_gcd y27 r28 hr28) Try.call130 rfl rfl rfl rfl rfl ?_
        refine TL_pure rfl rfl rfl rfl (op_eql rfl rfl) ?_
        refine TL_pure rfl rfl rfl rfl (op_assign rfl) ?_
        refine TL_nil ?_
        refine T_keepH [4] [] rfl rfl rfl rfl (by rw [hF]; rfl) ?_
        refine T_ret ?_
        obtain rfl := someI hm
        refine ⟨[_], [], ⟨rfl, trivial⟩, ?_, rfl, rfl, rfl, rfl⟩
        rfl
  · refine TL_split 8 rfl rfl rfl (fun hq => ?_) (fun hq => ?_)
    · refine TL_pass rfl rfl rfl rfl rfl rfl rfl ?_
      refine TL_pass rfl rfl rfl rfl rfl rfl rfl ?_
      refine TL_pass rfl rfl rfl rfl rfl rfl rfl ?_
      refine TL_pass rfl rfl rfl rfl rfl rfl rfl ?_
      refine TL_pass rfl rfl rfl rfl rfl rfl rfl ?_
      refine TL_pass rfl rfl rfl rfl rfl rfl rfl ?_
      refine TL_pure rfl rfl rfl rfl (op_pick_true rfl rfl) ?_
      refine TL_keepH [1, 2, 15] [11] rfl rfl rfl rfl (by rw [hF]; rfl) ?_
      exact TL_cast _ (by first | (rw [hq, Bool.true_or]; done) | (rw [hq]; rfl)) (hjj () trivial)
    · refine TL_want rfl rfl ?_
      refine TL_pure rfl rfl rfl rfl (op_fieldAddr fa75_1 rfl rfl) ?_
      refine TL_want rfl rfl ?_
      refine TL_pure rfl rfl rfl rfl (op_load_one ag29 rfl rfl) ?_
      refine TL_want rfl rfl ?_
      refine TL_pure rfl rfl rfl rfl (op_lenT Try.underlying29 rfl (List.length_map _)) ?_
      refine TL_fact (fun _ _ _ hr => RelP.slLen (i := 10) rfl hr) (fun hlen11 => ?_)
      rw [List.length_map] at hlen11
      refine TL_want rfl rfl ?_
      refine TL_pure rfl rfl rfl rfl (op_move rfl) ?_
      refine TL_want rfl rfl ?_
      refine TL_pure rfl rfl rfl rfl (op_addW rfl rfl) ?_
      refine TL_want rfl rfl ?_
      refine TL_pure rfl rfl rfl rfl (op_neq rfl rfl) ?_
      refine TL_pure rfl rfl rfl rfl (op_pick_false rfl rfl) ?_
      refine TL_keepH [1, 2, 15] [11] rfl rfl rfl rfl (by rw [hF]; rfl) ?_
      exact TL_cast _ (by first | (rw [hq, Bool.false_or]; done) | (rw [hq]; rfl)) (hjj () trivial)
theorem c_impl_tree_simplified_F (rec_impl_tree_simplified : Ptree → Option Ptree) (hrec_impl_tree_simplified : ∀ (p0 : Ptree) (out : Ptree), rec_impl_tree_simplified p0 = some out → ACall Try.prog 69 [a_Ptree p0] [] (a_Ptree out) []) (p0 : Ptree) (out : Ptree) (hm : m_impl_tree_simplified_F rec_impl_tree_simplified p0 = some out) : ACall Try.prog 69 [a_Ptree p0] [] (a_Ptree out) [] := by
  refine ACall.intro Try.func69 rfl Try.ntmps69 rfl (fun F hF => ?_)
  unfold m_impl_tree_simplified_F at hm
  refine T_seq ?_
  refine T_region ?_
  refine TL_pure rfl rfl rfl rfl (op_assign rfl) ?_
  refine TL_nil ?_
  refine T_seq ?_
  refine T_region ?_
  refine TL_pure rfl rfl rfl rfl (op_move rfl) ?_
  obtain ⟨o8, ho8, hm⟩ := bindS hm
  refine TL_trAt 8 (x' := .cp [.int .i64 o8.Stmt.Kind, .int .i64 o8.Stmt.Var, .int .i64 o8.Stmt.Event, .int .i64 o8.Stmt.Sum.Const, .sl 1 (List.map a_i64 o8.Stmt.Sum.Coeffs), .int .i64 o8.Stmt.Index.Const, .sl 1 (List.map a_i64 o8.Stmt.Index.Coeffs), .sl 2 (List.map a_Term o8.Stmt.Facts), .int .i64 o8.at_, .sl 1 (List.map a_Ptree o8.kids)]) rfl (TrR_open (un_tree_eq ho8)) rfl ?_
  refine TL_pure rfl rfl rfl rfl (op_nilCheck rfl rfl) ?_
  refine TL_pure rfl rfl rfl rfl (op_fieldAddrC (n := 8) fa132_0 rfl rfl rfl) ?_
  refine TL_pure rfl rfl rfl rfl (op_load_agg ag77 sz77 rfl rfl rfl) ?_
  refine TL_pure rfl rfl rfl rfl (op_buildP pl132 z132 rfl rfl rfl rfl rfl) ?_
  refine TL_box 11 rfl rfl rfl rfl rfl rfl rfl ?_
  refine TL_pure rfl rfl rfl rfl (op_assign rfl) ?_
  refine TL_nil ?_
  refine T_seq ?_
  refine T_seq ?_
  refine T_region ?_
  refine TL_pure rfl rfl rfl rfl (op_move rfl) ?_
  refine TL_trAt 14 (x' := .cp [.int .i64 o8.Stmt.Kind, .int .i64 o8.Stmt.Var, .int .i64 o8.Stmt.Event, .int .i64 o8.Stmt.Sum.Const, .sl 1 (List.map a_i64 o8.Stmt.Sum.Coeffs), .int .i64 o8.Stmt.Index.Const, .sl 1 (List.map a_i64 o8.Stmt.Index.Coeffs), .sl 2 (List.map a_Term o8.Stmt.Facts), .int .i64 o8.at_, .sl 1 (List.map a_Ptree o8.kids)]) rfl (TrR_open (un_tree_eq ho8)) rfl ?_
  refine TL_pure rfl rfl rfl rfl (op_nilCheck rfl rfl) ?_
  refine TL_pure rfl rfl rfl rfl (op_fieldAddr fa132_2 rfl rfl) ?_
  refine TL_pure rfl rfl rfl rfl (op_load_one ag129 rfl rfl) ?_
  refine TL_pure rfl rfl rfl rfl (op_lenT Try.underlying129 rfl (List.length_map _)) ?_
  refine TL_fact (fun _ _ _ hr => RelP.slLen (i := 17) rfl hr) (fun hlen18 => ?_)
  rw [List.length_map] at hlen18
  refine TL_pure rfl rfl rfl rfl (op_move rfl) ?_
  refine TL_nil ?_
  refine T_block ?_
  refine T_ownNilBox 11 9 2893 ⟨false, false⟩ 88 rfl rfl rfl (sz := 1) rfl rfl rfl rfl ?_
  refine T_keepH [0, 3, 17, 18, 19] [11, 2893] rfl rfl rfl rfl (by rw [hF]; rfl) ?_
  refine T_ren [(11, 11), (2893, 70001)] rfl rfl rfl (by rw [hF]; rfl) ?_
  refine T_loop ?_
  obtain ⟨u0, hl0, hm⟩ := bindS hm
  refine TR_forL2 o8.kids (m_impl_tree_simplified_F_L0 rec_impl_tree_simplified) (fun (s0 : List Ptree) => s0) (fun n0 (s0 : List Ptree) => ⟨[(0, a_Ptree p0), (3, .ptr 11 0 0), (17, .sl 1 (List.map a_Ptree o8.kids)), (18, .int .i64 (o8.kids.length : Int)), (19, .int .i64 (n0 : Int))], [(11, .box [.int .i64 o8.Stmt.Kind, .int .i64 o8.Stmt.Var, .int .i64 o8.Stmt.Event, .int .i64 o8.Stmt.Sum.Const, .sl 1 (List.map a_i64 o8.Stmt.Sum.Coeffs), .int .i64 o8.Stmt.Index.Const, .sl 1 (List.map a_i64 o8.Stmt.Index.Coeffs), .sl 2 (List.map a_Term o8.Stmt.Facts), .int .i64 (0 : Int), .ow 70001]), (70001, .arr ⟨false, false⟩ 1 88 (List.map a_Ptree s0))]⟩) (fun u0 => .exit 0) (fun u0 => ⟨[(0, a_Ptree p0), (3, .ptr 11 0 0)], [(11, .box [.int .i64 o8.Stmt.Kind, .int .i64 o8.Stmt.Var, .int .i64 o8.Stmt.Event, .int .i64 o8.Stmt.Sum.Const, .sl 1 (List.map a_i64 o8.Stmt.Sum.Coeffs), .int .i64 o8.Stmt.Index.Const, .sl 1 (List.map a_i64 o8.Stmt.Index.Coeffs), .sl 2 (List.map a_Term o8.Stmt.Facts), .int .i64 (0 : Int), .ow 70001]), (70001, .arr ⟨false, false⟩ 1 88 (List.map a_Ptree u0))]⟩) (fun u0 => m_impl_tree_simplified_F_A0 o8 u0 = some out) hl0 hm (fun u0 hm => ?_) (fun hx0 s0 hm => ?_) (fun hx0 n0 x0 s0 c0 hxn0 hlt0 hm hc0 => ?_)
  · unfold m_impl_tree_simplified_F_A0 at hm
    refine T_seq ?_
    refine T_region ?_
    refine TL_pure rfl rfl rfl rfl (op_buildP pl77 z77 rfl rfl rfl rfl rfl) ?_
    refine TL_pure rfl rfl rfl rfl (op_buildP pl132 z132 rfl rfl rfl rfl rfl) ?_
    refine TL_box 2892 rfl rfl rfl rfl rfl rfl rfl ?_
    refine TL_pure rfl rfl rfl rfl (op_assign rfl) ?_
    refine TL_nil ?_
    refine T_seq ?_
    refine T_region ?_
    refine TL_pure rfl rfl rfl rfl (op_move rfl) ?_
    refine TL_trAt 38 (x' := .cp [.int .i64 o8.Stmt.Kind, .int .i64 o8.Stmt.Var, .int .i64 o8.Stmt.Event, .int .i64 o8.Stmt.Sum.Const, .sl 1 (List.map a_i64 o8.Stmt.Sum.Coeffs), .int .i64 o8.Stmt.Index.Const, .sl 1 (List.map a_i64 o8.Stmt.Index.Coeffs), .sl 2 (List.map a_Term o8.Stmt.Facts), .int .i64 o8.at_, .sl 1 (List.map a_Ptree o8.kids)]) rfl (TrR_open (un_tree_eq ho8)) rfl ?_
    refine TL_pure rfl rfl rfl rfl (op_nilCheck rfl rfl) ?_
    refine TL_pure rfl rfl rfl rfl (op_fieldAddrC (n := 8) fa132_0 rfl rfl rfl) ?_
    refine TL_pure rfl rfl rfl rfl (op_fieldAddrC (n := 2) fa77_3 rfl rfl rfl) ?_
    refine TL_pure rfl rfl rfl rfl (op_fieldAddr fa75_1 rfl rfl) ?_
    refine TL_pure rfl rfl rfl rfl (op_load_one ag29 rfl rfl) ?_
    refine TL_pure rfl rfl rfl rfl (op_lenT Try.underlying29 rfl (List.length_map _)) ?_
    refine TL_fact (fun _ _ _ hr => RelP.slLen (i := 43) rfl hr) (fun hlen44 => ?_)
    rw [List.length_map] at hlen44
    refine TL_pure rfl rfl rfl rfl (op_eql rfl rfl) ?_
    refine TL_pure rfl rfl rfl rfl (op_assign rfl) ?_
    refine TL_nil ?_
    refine T_seq ?_
    refine T_seq ?_
    refine T_region ?_
    refine TL_pure rfl rfl rfl rfl (op_move rfl) ?_
    refine TL_trAt 46 (x' := .cp [.int .i64 o8.Stmt.Kind, .int .i64 o8.Stmt.Var, .int .i64 o8.Stmt.Event, .int .i64 o8.Stmt.Sum.Const, .sl 1 (List.map a_i64 o8.Stmt.Sum.Coeffs), .int .i64 o8.Stmt.Index.Const, .sl 1 (List.map a_i64 o8.Stmt.Index.Coeffs), .sl 2 (List.map a_Term o8.Stmt.Facts), .int .i64 o8.at_, .sl 1 (List.map a_Ptree o8.kids)]) rfl (TrR_open (un_tree_eq ho8)) rfl ?_
    refine TL_pure rfl rfl rfl rfl (op_nilCheck rfl rfl) ?_
    refine TL_pure rfl rfl rfl rfl (op_fieldAddrC (n := 8) fa132_0 rfl rfl rfl) ?_
    refine TL_pure rfl rfl rfl rfl (op_fieldAddrC (n := 1) fa77_0 rfl rfl rfl) ?_
    refine TL_pure rfl rfl rfl rfl (op_load_one ag2 rfl rfl) ?_
    refine TL_nil ?_
    refine T_block ?_
    refine T_seq ?_
    refine T_region ?_
    refine TL_pure rfl rfl rfl rfl (op_eql rfl rfl) ?_
    refine TL_pure rfl rfl rfl rfl (op_assign rfl) ?_
    refine TL_nil ?_
    refine T_cond rfl (fun hq => ?_) (fun hq => ?_)
    · replace hm := condT hq hm
      refine T_seq ?_
      refine T_seq ?_
      refine T_region ?_
      refine TL_pure rfl rfl rfl rfl (op_move rfl) ?_
      refine TL_pure rfl rfl rfl rfl (op_nilCheck rfl rfl) ?_
      refine TL_pure rfl rfl rfl rfl (op_fieldAddr fa132_2 rfl rfl) ?_
      refine TL_pure rfl rfl rfl rfl (op_load_one ag129 rfl rfl) ?_
      obtain ⟨x57, hx57, hm⟩ := bindS hm
      refine TL_pure rfl rfl rfl rfl (op_indexO el129 rfl rfl rfl hx57) ?_
      refine TL_pure rfl rfl rfl rfl (op_loadT1 ag88 rfl rfl ((getI_spec hx57).2) rfl rfl) ?_
      obtain ⟨o58, ho58, hm⟩ := bindS hm
      refine TL_trAt 58 (x' := .cp [.int .i64 o58.Stmt.Kind, .int .i64 o58.Stmt.Var, .int .i64 o58.Stmt.Event, .int .i64 o58.Stmt.Sum.Const, .sl 1 (List.map a_i64 o58.Stmt.Sum.Coeffs), .int .i64 o58.Stmt.Index.Const, .sl 1 (List.map a_i64 o58.Stmt.Index.Coeffs), .sl 2 (List.map a_Term o58.Stmt.Facts), .int .i64 o58.at_, .sl 1 (List.map a_Ptree o58.kids)]) rfl (TrR_open (un_tree_eq ho58)) rfl ?_
      refine TL_pure rfl rfl rfl rfl (op_nilCheck rfl rfl) ?_
      refine TL_pure rfl rfl rfl rfl (op_fieldAddrC (n := 8) fa132_0 rfl rfl rfl) ?_
      refine TL_pure rfl rfl rfl rfl (op_fieldAddrC (n := 1) fa77_0 rfl rfl rfl) ?_
      refine TL_pure rfl rfl rfl rfl (op_load_one ag2 rfl rfl) ?_
      refine TL_pure rfl rfl rfl rfl (op_eql rfl rfl) ?_
      refine TL_nil ?_
      refine T_cond rfl (fun hq => ?_) (fun hq => ?_)
      · replace hm := condT hq hm
        refine T_seq ?_
        refine T_region ?_
        refine TL_pure rfl rfl rfl rfl (op_move rfl) ?_
        refine TL_pure rfl rfl rfl rfl (op_nilCheck rfl rfl) ?_
        refine TL_pure rfl rfl rfl rfl (op_fieldAddr fa132_2 rfl rfl) ?_
        refine TL_pure rfl rfl rfl rfl (op_load_one ag129 rfl rfl) ?_
        obtain ⟨x68, hx68, hm⟩ := bindS hm
        refine TL_pure rfl rfl rfl rfl (op_indexO el129 rfl rfl rfl hx68) ?_
        refine TL_pure rfl rfl rfl rfl (op_loadT1 ag88 rfl rfl ((getI_spec hx68).2) rfl rfl) ?_
        refine TL_pure rfl rfl rfl rfl (op_assign rfl) ?_
        refine TL_nil ?_
        refine T_keepH [2] [] rfl rfl rfl rfl (by rw [hF]; rfl) ?_
        refine T_ret ?_
        obtain rfl := someI hm
        refine ⟨[_], [], ⟨rfl, trivial⟩, ?_, rfl, rfl, rfl, rfl⟩
        rfl
      · replace hm := condF hq hm
        refine T_skip ?_
        refine T_seq ?_
        refine T_region ?_
        refine TL_pure rfl rfl rfl rfl (op_move rfl) ?_
        refine TL_pure rfl rfl rfl rfl (op_nilCheck rfl rfl) ?_
        refine TL_pure rfl rfl rfl rfl (op_fieldAddr fa132_2 rfl rfl) ?_
        refine TL_pure rfl rfl rfl rfl (op_load_one ag129 rfl rfl) ?_
        obtain ⟨x74, hx74, hm⟩ := bindS hm
        refine TL_pure rfl rfl rfl rfl (op_indexO el129 rfl rfl rfl hx74) ?_
        refine TL_pure rfl rfl rfl rfl (op_loadT1 ag88 rfl rfl ((getI_spec hx74).2) rfl rfl) ?_
        obtain ⟨o75, ho75, hm⟩ := bindS hm
        refine TL_trAt 75 (x' := .cp [.int .i64 o75.Stmt.Kind, .int .i64 o75.Stmt.Var, .int .i64 o75.Stmt.Event, .int .i64 o75.Stmt.Sum.Const, .sl 1 (List.map a_i64 o75.Stmt.Sum.Coeffs), .int .i64 o75.Stmt.Index.Const, .sl 1 (List.map a_i64 o75.Stmt.Index.Coeffs), .sl 2 (List.map a_Term o75.Stmt.Facts), .int .i64 o75.at_, .sl 1 (List.map a_Ptree o75.kids)]) rfl (TrR_open (un_tree_eq ho75)) rfl ?_
        refine TL_pure rfl rfl rfl rfl (op_nilCheck rfl rfl) ?_
        refine TL_pure rfl rfl rfl rfl (op_fieldAddrC (n := 8) fa132_0 rfl rfl rfl) ?_
        refine TL_pure rfl rfl rfl rfl (op_fieldAddrC (n := 1) fa77_0 rfl rfl rfl) ?_
        refine TL_pure rfl rfl rfl rfl (op_load_one ag2 rfl rfl) ?_
        refine TL_pure rfl rfl rfl rfl (op_eql rfl rfl) ?_
        refine TL_nil ?_
        refine T_cond rfl (fun hq => ?_) (fun hq => ?_)
        · replace hm := condT hq hm
          refine T_seq ?_
          refine T_region ?_
          refine TL_pure rfl rfl rfl rfl (op_move rfl) ?_
          refine TL_pure rfl rfl rfl rfl (op_nilCheck rfl rfl) ?_
          refine TL_pure rfl rfl rfl rfl (op_fieldAddr fa132_2 rfl rfl) ?_
          refine TL_pure rfl rfl rfl rfl (op_load_one ag129 rfl rfl) ?_
          refine TL_pure rfl rfl rfl rfl (op_indexO el129 rfl rfl rfl hx57) ?_
          refine TL_pure rfl rfl rfl rfl (op_loadT1 ag88 rfl rfl ((getI_spec hx57).2) rfl rfl) ?_
          refine TL_pure rfl rfl rfl rfl (op_assign rfl) ?_
          refine TL_nil ?_
          refine T_keepH [2] [] rfl rfl rfl rfl (by rw [hF]; rfl) ?_
          refine T_ret ?_
          obtain rfl := someI hm
          refine ⟨[_], [], ⟨rfl, trivial⟩, ?_, rfl, rfl, rfl, rfl⟩
          rfl
        · replace hm := condF hq hm
          refine T_skip ?_
          refine T_seq ?_
          refine T_region ?_
          refine TL_pure rfl rfl rfl rfl (op_move rfl) ?_
          refine TL_pure rfl rfl rfl rfl (op_assign rfl) ?_
          refine TL_nil ?_
          refine T_freeze 70001 (by rw [hF]; rfl) rfl rfl rfl ?_
          refine T_freezeB 11 (by rw [hF]; rfl) rfl rfl rfl rfl ?_
          refine T_trAt 2 (x' := a_Ptree (re_tree (tree.mk o8.Stmt (0 : Int) u0))) rfl (TrR_fold (re_tree_eq (tree.mk o8.Stmt (0 : Int) u0))) rfl ?_
          refine T_keepH [2] [] rfl rfl rfl rfl (by rw [hF]; rfl) ?_
          refine T_ret ?_
          obtain rfl := someI hm
          refine ⟨[_], [], ⟨rfl, trivial⟩, ?_, rfl, rfl, rfl, rfl⟩
          rfl
    · replace hm := condF hq hm
      refine T_seq ?_
      refine T_region ?_
      refine TL_pure rfl rfl rfl rfl (op_eql rfl rfl) ?_
      refine TL_pure rfl rfl rfl rfl (op_assign rfl) ?_
      refine TL_nil ?_
      refine T_cond rfl (fun hq => ?_) (fun hq => ?_)
      · replace hm := condT hq hm
        refine T_seq ?_
        refine T_seq ?_
        refine T_region ?_
        refine TL_pure rfl rfl rfl rfl (op_move rfl) ?_
        refine TL_pure rfl rfl rfl rfl (op_move rfl) ?_
        refine TL_join 8 (fun _ : Unit => ⟨[(3, .ptr 11 0 0), (7, .bool (decide ((o8.Stmt.Sum.Coeffs.length : Int) = (0 : Int)))), (98, .bool ((decide ((o8.Stmt.Sum.Coeffs.length : Int) = (0 : Int))) && (decide (o8.Stmt.Sum.Const < (0 : Int)))))], [(11, .box [.int .i64 o8.Stmt.Kind, .int .i64 o8.Stmt.Var, .int .i64 o8.Stmt.Event, .int .i64 o8.Stmt.Sum.Const, .sl 1 (List.map a_i64 o8.Stmt.Sum.Coeffs), .int .i64 o8.Stmt.Index.Const, .sl 1 (List.map a_i64 o8.Stmt.Index.Coeffs), .sl 2 (List.map a_Term o8.Stmt.Facts), .int .i64 (0 : Int), .ow 70001]), (70001, .arr ⟨false, false⟩ 1 88 (List.map a_Ptree u0))]⟩) (fun _ => True) (fun _ _ => ?_) (fun hjj => ?_)
        · refine TL_nil ?_
          refine T_cond rfl (fun hq => ?_) (fun hq => ?_)
          · replace hm := condT hq hm
            refine T_seq ?_
            refine T_region ?_
            refine TL_pure rfl rfl rfl rfl (op_move rfl) ?_
            refine TL_pure rfl rfl rfl rfl (op_nilCheck rfl rfl) ?_
            refine TL_pure rfl rfl rfl rfl (op_fieldAddr fa132_2 rfl rfl) ?_
            refine TL_pure rfl rfl rfl rfl (op_load_one ag129 rfl rfl) ?_
            obtain ⟨x103, hx103, hm⟩ := bindS hm
            refine TL_pure rfl rfl rfl rfl (op_indexO el129 rfl rfl rfl hx103) ?_
            refine TL_pure rfl rfl rfl rfl (op_loadT1 ag88 rfl rfl ((getI_spec hx103).2) rfl rfl) ?_
            refine TL_pure rfl rfl rfl rfl (op_assign rfl) ?_
            refine TL_nil ?_
            refine T_keepH [2] [] rfl rfl rfl rfl (by rw [hF]; rfl) ?_
            refine T_ret ?_
            obtain rfl := someI hm
            refine ⟨[_], [], ⟨rfl, trivial⟩, ?_, rfl, rfl, rfl, rfl⟩
            rfl
          · replace hm := condF hq hm
            refine T_skip ?_
            refine T_join (fun (j0 : Bool) => ⟨[(3, .ptr 11 0 0), (120, .bool j0)], [(11, .box [.int .i64 o8.Stmt.Kind, .int .i64 o8.Stmt.Var, .int .i64 o8.Stmt.Event, .int .i64 o8.Stmt.Sum.Const, .sl 1 (List.map a_i64 o8.Stmt.Sum.Coeffs), .int .i64 o8.Stmt.Index.Const, .sl 1 (List.map a_i64 o8.Stmt.Index.Coeffs), .sl 2 (List.map a_Term o8.Stmt.Facts), .int .i64 (0 : Int), .ow 70001]), (70001, .arr ⟨false, false⟩ 1 88 (List.map a_Ptree u0))]⟩) (fun j0 => m_impl_tree_simplified_F_J0 o8 u0 j0 = some out) (fun j0 hm => ?_) (fun hj0 => ?_)
            · unfold m_impl_tree_simplified_F_J0 at hm
              refine T_cond rfl (fun hq => ?_) (fun hq => ?_)
              · replace hm := condT hq hm
                refine T_seq ?_
                refine T_region ?_
                refine TL_pure rfl rfl rfl rfl (op_move rfl) ?_
                refine TL_pure rfl rfl rfl rfl (op_nilCheck rfl rfl) ?_
                refine TL_pure rfl rfl rfl rfl (op_fieldAddr fa132_2 rfl rfl) ?_
                refine TL_pure rfl rfl rfl rfl (op_load_one ag129 rfl rfl) ?_
                obtain ⟨x125, hx125, hm⟩ := bindS hm
                refine TL_pure rfl rfl rfl rfl (op_indexO el129 rfl rfl rfl hx125) ?_
                refine TL_pure rfl rfl rfl rfl (op_loadT1 ag88 rfl rfl ((getI_spec hx125).2) rfl rfl) ?_
                refine TL_pure rfl rfl rfl rfl (op_assign rfl) ?_
                refine TL_nil ?_
                refine T_keepH [2] [] rfl rfl rfl rfl (by rw [hF]; rfl) ?_
                refine T_ret ?_
                obtain rfl := someI hm
                refine ⟨[_], [], ⟨rfl, trivial⟩, ?_, rfl, rfl, rfl, rfl⟩
                rfl
              · replace hm := condF hq hm
                refine T_skip ?_
                refine T_seq ?_
                refine T_region ?_
                refine TL_pure rfl rfl rfl rfl (op_move rfl) ?_
                refine TL_pure rfl rfl rfl rfl (op_assign rfl) ?_
                refine TL_nil ?_
                refine T_freeze 70001 (by rw [hF]; rfl) rfl rfl rfl ?_
                refine T_freezeB 11 (by rw [hF]; rfl) rfl rfl rfl rfl ?_
                refine T_trAt 2 (x' := a_Ptree (re_tree (tree.mk o8.Stmt (0 : Int) u0))) rfl (TrR_fold (re_tree_eq (tree.mk o8.Stmt (0 : Int) u0))) rfl ?_
                refine T_keepH [2] [] rfl rfl rfl rfl (by rw [hF]; rfl) ?_
                refine T_ret ?_
                obtain rfl := someI hm
                refine ⟨[_], [], ⟨rfl, trivial⟩, ?_, rfl, rfl, rfl, rfl⟩
                rfl
            · refine T_drawZ [] mix (by kernel_rfl) rfl ?_
              refine TZ_pure 0 (by kernel_rfl) rfl rfl rfl rfl rfl (op_move rfl) ?_
              refine TZ_pure 1 (by kernel_rfl) rfl rfl rfl rfl rfl (op_move rfl) ?_
              refine TZ_split 106 rfl rfl rfl (fun hq => ?_) (fun hq => ?_)
              · replace hm := condT hq hm
                refine TZ_pass 2 (by kernel_rfl) rfl rfl rfl rfl rfl rfl rfl rfl ?_
                refine TZ_pass 3 (by kernel_rfl) rfl rfl rfl rfl rfl rfl rfl rfl ?_
                refine TZ_pass 4 (by kernel_rfl) rfl rfl rfl rfl rfl rfl rfl rfl ?_
                refine TZ_pass 5 (by kernel_rfl) rfl rfl rfl rfl rfl rfl rfl rfl ?_
                refine TZ_pass 6 (by kernel_rfl) rfl rfl rfl rfl rfl rfl rfl rfl ?_
                refine TZ_pass 7 (by kernel_rfl) rfl rfl rfl rfl rfl rfl rfl rfl ?_
                refine TZ_pass 8 (by kernel_rfl) rfl rfl rfl rfl rfl rfl rfl rfl ?_
                refine TZ_pass 9 (by kernel_rfl) rfl rfl rfl rfl rfl rfl rfl rfl ?_
                refine TZ_pass 10 (by kernel_rfl) rfl rfl rfl rfl rfl rfl rfl rfl ?_
                refine TZ_pass 11 (by kernel_rfl) rfl rfl rfl rfl rfl rfl rfl rfl ?_
                refine TZ_pass 12 (by kernel_rfl) rfl rfl rfl rfl rfl rfl rfl rfl ?_
                refine TZ_pass 13 (by kernel_rfl) rfl rfl rfl rfl rfl rfl rfl rfl ?_
                refine TZ_one 14 (by kernel_rfl) rfl ?_
                refine TL_pass rfl rfl rfl rfl rfl rfl rfl ?_
                refine TL_nil ?_
                refine TZ_pure 15 (by kernel_rfl) rfl rfl rfl rfl rfl (op_pick_true rfl rfl) ?_
                refine TZ_done (by kernel_rfl) ?_
                refine T_keepH [3, 120] [11, 70001] rfl rfl rfl rfl (by rw [hF]; rfl) ?_
                exact hj0 true hm
              · replace hm := condF hq hm
                obtain ⟨x111, hx111, hm⟩ := bindS hm
                obtain ⟨x117, hx117, hm⟩ := bindS hm
                obtain ⟨r119, hr119, hm⟩ := bindS hm
                refine TZ_pureW 2 (by kernel_rfl) rfl rfl rfl rfl rfl rfl rfl (op_move rfl) ?_
                refine TZ_pureW 3 (by kernel_rfl) rfl rfl rfl rfl rfl rfl rfl (op_nilCheck rfl rfl) ?_
                refine TZ_pureW 4 (by kernel_rfl) rfl rfl rfl rfl rfl rfl rfl (op_fieldAddr fa132_2 rfl rfl) ?_
                refine TZ_pureW 5 (by kernel_rfl) rfl rfl rfl rfl rfl rfl rfl (op_load_one ag129 rfl rfl) ?_
                refine TZ_pureW 6 (by kernel_rfl) rfl rfl rfl rfl rfl rfl rfl (op_indexO el129 rfl rfl rfl hx111) ?_
                refine TZ_pureW 7 (by kernel_rfl) rfl rfl rfl rfl rfl rfl rfl (op_loadT1 ag88 rfl rfl ((getI_spec hx111).2) rfl rfl) ?_
                refine TZ_pureW 8 (by kernel_rfl) rfl rfl rfl rfl rfl rfl rfl (op_move rfl) ?_
                refine TZ_pureW 9 (by kernel_rfl) rfl rfl rfl rfl rfl rfl rfl (op_nilCheck rfl rfl) ?_
                refine TZ_pureW 10 (by kernel_rfl) rfl rfl rfl rfl rfl rfl rfl (op_fieldAddr fa132_2 rfl rfl) ?_
                refine TZ_pureW 11 (by kernel_rfl) rfl rfl rfl rfl rfl rfl rfl (op_load_one ag129 rfl rfl) ?_
                refine TZ_pureW 12 (by kernel_rfl) rfl rfl rfl rfl rfl rfl rfl (op_indexO el129 rfl rfl rfl hx117) ?_
                refine TZ_pureW 13 (by kernel_rfl) rfl rfl rfl rfl rfl rfl rfl (op_loadT1 ag88 rfl rfl ((getI_spec hx117).2) rfl rfl) ?_
                refine TZ_one 14 (by kernel_rfl) rfl ?_
                refine TL_want rfl rfl ?_
                refine TL_callF (c_impl_sameTree 1000 x111 x117 r119 hr119) Try.call104 rfl rfl rfl rfl rfl ?_
                refine TL_nil ?_
                refine TZ_pure 15 (by kernel_rfl) rfl rfl rfl rfl rfl (op_pick_false rfl rfl) ?_
                refine TZ_done (by kernel_rfl) ?_
                refine T_keepH [3, 120] [11, 70001] rfl rfl rfl rfl (by rw [hF]; rfl) ?_
                exact hj0 r119 hm
        · refine TL_split 90 rfl rfl rfl (fun hq => ?_) (fun hq => ?_)
          · refine TL_want rfl rfl ?_
            refine TL_pure rfl rfl rfl rfl (op_move rfl) ?_
            refine TL_want rfl rfl ?_
            refine TL_trAt 91 (x' := .cp [.int .i64 o8.Stmt.Kind, .int .i64 o8.Stmt.Var, .int .i64 o8.Stmt.Event, .int .i64 o8.Stmt.Sum.Const, .sl 1 (List.map a_i64 o8.Stmt.Sum.Coeffs), .int .i64 o8.Stmt.Index.Const, .sl 1 (List.map a_i64 o8.Stmt.Index.Coeffs), .sl 2 (List.map a_Term o8.Stmt.Facts), .int .i64 o8.at_, .sl 1 (List.map a_Ptree o8.kids)]) rfl (TrR_open (un_tree_eq ho8)) rfl ?_
            refine TL_pure rfl rfl rfl rfl (op_nilCheck rfl rfl) ?_
            refine TL_want rfl rfl ?_
            refine TL_pure rfl rfl rfl rfl (op_fieldAddrC (n := 8) fa132_0 rfl rfl rfl) ?_
            refine TL_want rfl rfl ?_
            refine TL_pure rfl rfl rfl rfl (op_fieldAddrC (n := 2) fa77_3 rfl rfl rfl) ?_
            refine TL_want rfl rfl ?_
            refine TL_pure rfl rfl rfl rfl (op_fieldAddrC (n := 1) fa75_0 rfl rfl rfl) ?_
            refine TL_want rfl rfl ?_
            refine TL_pure rfl rfl rfl rfl (op_load_one ag2 rfl rfl) ?_
            refine TL_want rfl rfl ?_
            refine TL_pure rfl rfl rfl rfl (op_lss rfl rfl) ?_
            refine TL_pure rfl rfl rfl rfl (op_pick_true rfl rfl) ?_
            refine TL_keepH [3, 7, 98] [11, 70001] rfl rfl rfl rfl (by rw [hF]; rfl) ?_
            exact TL_cast _ (by first | (rw [hq, Bool.true_and]; done) | (rw [hq]; rfl)) (hjj () trivial)
          · refine TL_pass rfl rfl rfl rfl rfl rfl rfl ?_
            refine TL_pass rfl rfl rfl rfl rfl rfl rfl ?_
            refine TL_pass rfl rfl rfl rfl rfl rfl rfl ?_
            refine TL_pass rfl rfl rfl rfl rfl rfl rfl ?_
            refine TL_pass rfl rfl rfl rfl rfl rfl rfl ?_
            refine TL_pass rfl rfl rfl rfl rfl rfl rfl ?_
            refine TL_pass rfl rfl rfl rfl rfl rfl rfl ?_
            refine TL_pure rfl rfl rfl rfl (op_pick_false rfl rfl) ?_
            refine TL_keepH [3, 7, 98] [11, 70001] rfl rfl rfl rfl (by rw [hF]; rfl) ?_
            exact TL_cast _ (by first | (rw [hq, Bool.false_and]; done) | (rw [hq]; rfl)) (hjj () trivial)
      · replace hm := condF hq hm
        refine T_seq ?_
        refine T_region ?_
        refine TL_pure rfl rfl rfl rfl (op_eql rfl rfl) ?_
        refine TL_pure rfl rfl rfl rfl (op_assign rfl) ?_
        refine TL_nil ?_
        refine T_cond rfl (fun hq => ?_) (fun hq => ?_)
        · replace hm := condT hq hm
          refine T_seq ?_
          refine T_region ?_
          refine TL_pure rfl rfl rfl rfl (op_move rfl) ?_
          refine TL_pure rfl rfl rfl rfl (op_move rfl) ?_
          refine TL_join 8 (fun _ : Unit => ⟨[(3, .ptr 11 0 0), (6, .ptr 2892 0 0), (138, .bool ((decide ((o8.Stmt.Sum.Coeffs.length : Int) = (0 : Int))) && (decide (o8.Stmt.Sum.Const < (0 : Int)))))], [(11, .box [.int .i64 o8.Stmt.Kind, .int .i64 o8.Stmt.Var, .int .i64 o8.Stmt.Event, .int .i64 o8.Stmt.Sum.Const, .sl 1 (List.map a_i64 o8.Stmt.Sum.Coeffs), .int .i64 o8.Stmt.Index.Const, .sl 1 (List.map a_i64 o8.Stmt.Index.Coeffs), .sl 2 (List.map a_Term o8.Stmt.Facts), .int .i64 (0 : Int), .ow 70001]), (2892, .box [.int .i64 (0 : Int), .int .i64 (0 : Int), .int .i64 (0 : Int), .int .i64 (0 : Int), .snil, .int .i64 (0 : Int), .snil, .snil, .int .i64 (0 : Int), .snil]), (70001, .arr ⟨false, false⟩ 1 88 (List.map a_Ptree u0))]⟩) (fun _ => True) (fun _ _ => ?_) (fun hjj => ?_)
          · refine TL_nil ?_
            refine T_cond rfl (fun hq => ?_) (fun hq => ?_)
            · replace hm := condT hq hm
              refine T_seq ?_
              refine T_region ?_
              refine TL_pure rfl rfl rfl rfl (op_move rfl) ?_
              refine TL_pure rfl rfl rfl rfl (op_assign rfl) ?_
              refine TL_nil ?_
              refine T_freezeB 2892 (by rw [hF]; rfl) rfl rfl rfl rfl ?_
              refine T_nilAt 2 (x' := .cp [.int .i64 (0 : Int), .int .i64 (0 : Int), .int .i64 (0 : Int), .int .i64 (0 : Int), .sl 1 (List.map a_i64 ([] : List Int)), .int .i64 (0 : Int), .sl 1 (List.map a_i64 ([] : List Int)), .sl 2 (List.map a_Term ([] : List Term)), .int .i64 (0 : Int), .sl 1 (List.map a_Ptree ([] : List Ptree))]) rfl (⟨_, rfl, ⟨_, _, rfl, rfl, ⟨_, _, rfl, rfl, ⟨_, _, rfl, rfl, ⟨_, _, rfl, rfl, ⟨_, _, rfl, .inr ⟨_, rfl⟩, ⟨_, _, rfl, rfl, ⟨_, _, rfl, .inr ⟨_, rfl⟩, ⟨_, _, rfl, .inr ⟨_, rfl⟩, ⟨_, _, rfl, rfl, ⟨_, _, rfl, .inr ⟨_, rfl⟩, rfl⟩⟩⟩⟩⟩⟩⟩⟩⟩⟩⟩) rfl ?_
              refine T_trAt 2 (x' := a_Ptree (re_tree (tree.mk (Stmt.mk (0 : Int) (0 : Int) (0 : Int) (Term.mk (0 : Int) ([] : List Int)) (Term.mk (0 : Int) ([] : List Int)) ([] : List Term)) (0 : Int) ([] : List Ptree)))) rfl (TrR_fold (re_tree_eq (tree.mk (Stmt.mk (0 : Int) (0 : Int) (0 : Int) (Term.mk (0 : Int) ([] : List Int)) (Term.mk (0 : Int) ([] : List Int)) ([] : List Term)) (0 : Int) ([] : List Ptree)))) rfl ?_
              refine T_keepH [2] [] rfl rfl rfl rfl (by rw [hF]; rfl) ?_
              refine T_ret ?_
              obtain rfl := someI hm
              refine ⟨[_], [], ⟨rfl, trivial⟩, ?_, rfl, rfl, rfl, rfl⟩
              rfl
            · replace hm := condF hq hm
              refine T_skip ?_
              refine T_seq ?_
              refine T_region ?_
              refine TL_pure rfl rfl rfl rfl (op_move rfl) ?_
              refine TL_pure rfl rfl rfl rfl (op_assign rfl) ?_
              refine TL_nil ?_
              refine T_freeze 70001 (by rw [hF]; rfl) rfl rfl rfl ?_
              refine T_freezeB 11 (by rw [hF]; rfl) rfl rfl rfl rfl ?_
              refine T_trAt 2 (x' := a_Ptree (re_tree (tree.mk o8.Stmt (0 : Int) u0))) rfl (TrR_fold (re_tree_eq (tree.mk o8.Stmt (0 : Int) u0))) rfl ?_
              refine T_keepH [2] [] rfl rfl rfl rfl (by rw [hF]; rfl) ?_
              refine T_ret ?_
              obtain rfl := someI hm
              refine ⟨[_], [], ⟨rfl, trivial⟩, ?_, rfl, rfl, rfl, rfl⟩
              rfl
          · refine TL_split 130 rfl rfl rfl (fun hq => ?_) (fun hq => ?_)
            · refine TL_want rfl rfl ?_
              refine TL_pure rfl rfl rfl rfl (op_move rfl) ?_
              refine TL_want rfl rfl ?_
              refine TL_trAt 131 (x' := .cp [.int .i64 o8.Stmt.Kind, .int .i64 o8.Stmt.Var, .int .i64 o8.Stmt.Event, .int .i64 o8.Stmt.Sum.Const, .sl 1 (List.map a_i64 o8.Stmt.Sum.Coeffs), .int .i64 o8.Stmt.Index.Const, .sl 1 (List.map a_i64 o8.Stmt.Index.Coeffs), .sl 2 (List.map a_Term o8.Stmt.Facts), .int .i64 o8.at_, .sl 1 (List.map a_Ptree o8.kids)]) rfl (TrR_open (un_tree_eq ho8)) rfl ?_
              refine TL_pure rfl rfl rfl rfl (op_nilCheck rfl rfl) ?_
              refine TL_want rfl rfl ?_
              refine TL_pure rfl rfl rfl rfl (op_fieldAddrC (n := 8) fa132_0 rfl rfl rfl) ?_
              refine TL_want rfl rfl ?_
              refine TL_pure rfl rfl rfl rfl (op_fieldAddrC (n := 2) fa77_3 rfl rfl rfl) ?_
              refine TL_want rfl rfl ?_
              refine TL_pure rfl rfl rfl rfl (op_fieldAddrC (n := 1) fa75_0 rfl rfl rfl) ?_
              refine TL_want rfl rfl ?_
              refine TL_pure rfl rfl rfl rfl (op_load_one ag2 rfl rfl) ?_
              refine TL_want rfl rfl ?_
              refine TL_pure rfl rfl rfl rfl (op_lss rfl rfl) ?_
              refine TL_pure rfl rfl rfl rfl (op_pick_true rfl rfl) ?_
              refine TL_keepH [3, 6, 138] [11, 2892, 70001] rfl rfl rfl rfl (by rw [hF]; rfl) ?_
              exact TL_cast _ (by first | (rw [hq, Bool.true_and]; done) | (rw [hq]; rfl)) (hjj () trivial)
            · refine TL_pass rfl rfl rfl rfl rfl rfl rfl ?_
              refine TL_pass rfl rfl rfl rfl rfl rfl rfl ?_
              refine TL_pass rfl rfl rfl rfl rfl rfl rfl ?_
              refine TL_pass rfl rfl rfl rfl rfl rfl rfl ?_
              refine TL_pass rfl rfl rfl rfl rfl rfl rfl ?_
              refine TL_pass rfl rfl rfl rfl rfl rfl rfl ?_
              refine TL_pass rfl rfl rfl rfl rfl rfl rfl ?_
              refine TL_pure rfl rfl rfl rfl (op_pick_false rfl rfl) ?_
              refine TL_keepH [3, 6, 138] [11, 2892, 70001] rfl rfl rfl rfl (by rw [hF]; rfl) ?_
              exact TL_cast _ (by first | (rw [hq, Bool.false_and]; done) | (rw [hq]; rfl)) (hjj () trivial)
        · replace hm := condF hq hm
          refine T_seq ?_
          refine T_region ?_
          refine TL_pure rfl rfl rfl rfl (op_eql rfl rfl) ?_
          refine TL_pure rfl rfl rfl rfl (op_assign rfl) ?_
          refine TL_nil ?_
          refine T_cond rfl (fun hq => ?_) (fun hq => ?_)
          · replace hm := condT hq hm
            refine T_seq ?_
            refine T_region ?_
            refine TL_pure rfl rfl rfl rfl (op_move rfl) ?_
            refine TL_pure rfl rfl rfl rfl (op_move rfl) ?_
            refine TL_join 8 (fun _ : Unit => ⟨[(3, .ptr 11 0 0), (6, .ptr 2892 0 0), (151, .bool ((decide ((o8.Stmt.Sum.Coeffs.length : Int) = (0 : Int))) && (decide ((0 : Int) ≤ o8.Stmt.Sum.Const))))], [(11, .box [.int .i64 o8.Stmt.Kind, .int .i64 o8.Stmt.Var, .int .i64 o8.Stmt.Event, .int .i64 o8.Stmt.Sum.Const, .sl 1 (List.map a_i64 o8.Stmt.Sum.Coeffs), .int .i64 o8.Stmt.Index.Const, .sl 1 (List.map a_i64 o8.Stmt.Index.Coeffs), .sl 2 (List.map a_Term o8.Stmt.Facts), .int .i64 (0 : Int), .ow 70001]), (2892, .box [.int .i64 (0 : Int), .int .i64 (0 : Int), .int .i64 (0 : Int), .int .i64 (0 : Int), .snil, .int .i64 (0 : Int), .snil, .snil, .int .i64 (0 : Int), .snil]), (70001, .arr ⟨false, false⟩ 1 88 (List.map a_Ptree u0))]⟩) (fun _ => True) (fun _ _ => ?_) (fun hjj => ?_)
            · refine TL_nil ?_
              refine T_cond rfl (fun hq => ?_) (fun hq => ?_)
              · replace hm := condT hq hm
                refine T_seq ?_
                refine T_region ?_
                refine TL_pure rfl rfl rfl rfl (op_move rfl) ?_
                refine TL_pure rfl rfl rfl rfl (op_assign rfl) ?_
                refine TL_nil ?_
                refine T_freezeB 2892 (by rw [hF]; rfl) rfl rfl rfl rfl ?_
                refine T_nilAt 2 (x' := .cp [.int .i64 (0 : Int), .int .i64 (0 : Int), .int .i64 (0 : Int), .int .i64 (0 : Int), .sl 1 (List.map a_i64 ([] : List Int)), .int .i64 (0 : Int), .sl 1 (List.map a_i64 ([] : List Int)), .sl 2 (List.map a_Term ([] : List Term)), .int .i64 (0 : Int), .sl 1 (List.map a_Ptree ([] : List Ptree))]) rfl (⟨_, rfl, ⟨_, _, rfl, rfl, ⟨_, _, rfl, rfl, ⟨_, _, rfl, rfl, ⟨_, _, rfl, rfl, ⟨_, _, rfl, .inr ⟨_, rfl⟩, ⟨_, _, rfl, rfl, ⟨_, _, rfl, .inr ⟨_, rfl⟩, ⟨_, _, rfl, .inr ⟨_, rfl⟩, ⟨_, _, rfl, rfl, ⟨_, _, rfl, .inr ⟨_, rfl⟩, rfl⟩⟩⟩⟩⟩⟩⟩⟩⟩⟩⟩) rfl ?_
                refine T_trAt 2 (x' := a_Ptree (re_tree (tree.mk (Stmt.mk (0 : Int) (0 : Int) (0 : Int) (Term.mk (0 : Int) ([] : List Int)) (Term.mk (0 : Int) ([] : List Int)) ([] : List Term)) (0 : Int) ([] : List Ptree)))) rfl (TrR_fold (re_tree_eq (tree.mk (Stmt.mk (0 : Int) (0 : Int) (0 : Int) (Term.mk (0 : Int) ([] : List Int)) (Term.mk (0 : Int) ([] : List Int)) ([] : List Term)) (0 : Int) ([] : List Ptree)))) rfl ?_
                refine T_keepH [2] [] rfl rfl rfl rfl (by rw [hF]; rfl) ?_
                refine T_ret ?_
                obtain rfl := someI hm
                refine ⟨[_], [], ⟨rfl, trivial⟩, ?_, rfl, rfl, rfl, rfl⟩
                rfl
              · replace hm := condF hq hm
                refine T_skip ?_
                refine T_seq ?_
                refine T_region ?_
                refine TL_pure rfl rfl rfl rfl (op_move rfl) ?_
                refine TL_pure rfl rfl rfl rfl (op_assign rfl) ?_
                refine TL_nil ?_
                refine T_freeze 70001 (by rw [hF]; rfl) rfl rfl rfl ?_
                refine T_freezeB 11 (by rw [hF]; rfl) rfl rfl rfl rfl ?_
                refine T_trAt 2 (x' := a_Ptree (re_tree (tree.mk o8.Stmt (0 : Int) u0))) rfl (TrR_fold (re_tree_eq (tree.mk o8.Stmt (0 : Int) u0))) rfl ?_
                refine T_keepH [2] [] rfl rfl rfl rfl (by rw [hF]; rfl) ?_
                refine T_ret ?_
                obtain rfl := someI hm
                refine ⟨[_], [], ⟨rfl, trivial⟩, ?_, rfl, rfl, rfl, rfl⟩
                rfl
            · refine TL_split 143 rfl rfl rfl (fun hq => ?_) (fun hq => ?_)
              · refine TL_want rfl rfl ?_
                refine TL_pure rfl rfl rfl rfl (op_move rfl) ?_
                refine TL_want rfl rfl ?_
                refine TL_trAt 144 (x' := .cp [.int .i64 o8.Stmt.Kind, .int .i64 o8.Stmt.Var, .int .i64 o8.Stmt.Event, .int .i64 o8.Stmt.Sum.Const, .sl 1 (List.map a_i64 o8.Stmt.Sum.Coeffs), .int .i64 o8.Stmt.Index.Const, .sl 1 (List.map a_i64 o8.Stmt.Index.Coeffs), .sl 2 (List.map a_Term o8.Stmt.Facts), .int .i64 o8.at_, .sl 1 (List.map a_Ptree o8.kids)]) rfl (TrR_open (un_tree_eq ho8)) rfl ?_
                refine TL_pure rfl rfl rfl rfl (op_nilCheck rfl rfl) ?_
                refine TL_want rfl rfl ?_
                refine TL_pure rfl rfl rfl rfl (op_fieldAddrC (n := 8) fa132_0 rfl rfl rfl) ?_
                refine TL_want rfl rfl ?_
                refine TL_pure rfl rfl rfl rfl (op_fieldAddrC (n := 2) fa77_3 rfl rfl rfl) ?_
                refine TL_want rfl rfl ?_
                refine TL_pure rfl rfl rfl rfl (op_fieldAddrC (n := 1) fa75_0 rfl rfl rfl) ?_
                refine TL_want rfl rfl ?_
                refine TL_pure rfl rfl rfl rfl (op_load_one ag2 rfl rfl) ?_
                refine TL_want rfl rfl ?_
                refine TL_pure rfl rfl rfl rfl (op_geq rfl rfl) ?_
                refine TL_pure rfl rfl rfl rfl (op_pick_true rfl rfl) ?_
                refine TL_keepH [3, 6, 151] [11, 2892, 70001] rfl rfl rfl rfl (by rw [hF]; rfl) ?_
                exact TL_cast _ (by first | (rw [hq, Bool.true_and]; done) | (rw [hq]; rfl)) (hjj () trivial)
              · refine TL_pass rfl rfl rfl rfl rfl rfl rfl ?_
                refine TL_pass rfl rfl rfl rfl rfl rfl rfl ?_
                refine TL_pass rfl rfl rfl rfl rfl rfl rfl ?_
                refine TL_pass rfl rfl rfl rfl rfl rfl rfl ?_
                refine TL_pass rfl rfl rfl rfl rfl rfl rfl ?_
                refine TL_pass rfl rfl rfl rfl rfl rfl rfl ?_
                refine TL_pass rfl rfl rfl rfl rfl rfl rfl ?_
                refine TL_pure rfl rfl rfl rfl (op_pick_false rfl rfl) ?_
                refine TL_keepH [3, 6, 151] [11, 2892, 70001] rfl rfl rfl rfl (by rw [hF]; rfl) ?_
                exact TL_cast _ (by first | (rw [hq, Bool.false_and]; done) | (rw [hq]; rfl)) (hjj () trivial)
          · replace hm := condF hq hm
            refine T_seq ?_
            refine T_region ?_
            refine TL_pure rfl rfl rfl rfl (op_eql rfl rfl) ?_
            refine TL_pure rfl rfl rfl rfl (op_assign rfl) ?_
            refine TL_nil ?_
            refine T_cond rfl (fun hq => ?_) (fun hq => ?_)
            · replace hm := condT hq hm
              refine T_seq ?_
              refine T_drawZ [] mix (by kernel_rfl) rfl ?_
              obtain ⟨r165, hr165, hm⟩ := bindS hm
              refine TZ_pure 0 (by kernel_rfl) rfl rfl rfl rfl rfl (op_move rfl) ?_
              refine TZ_trAt 155 (x' := .cp [.int .i64 o8.Stmt.Kind, .int .i64 o8.Stmt.Var, .int .i64 o8.Stmt.Event, .int .i64 o8.Stmt.Sum.Const, .sl 1 (List.map a_i64 o8.Stmt.Sum.Coeffs), .int .i64 o8.Stmt.Index.Const, .sl 1 (List.map a_i64 o8.Stmt.Index.Coeffs), .sl 2 (List.map a_Term o8.Stmt.Facts), .int .i64 o8.at_, .sl 1 (List.map a_Ptree o8.kids)]) rfl (TrR_open (un_tree_eq ho8)) rfl ?_
              refine TZ_pure 1 (by kernel_rfl) rfl rfl rfl rfl rfl (op_nilCheck rfl rfl) ?_
              refine TZ_pure 2 (by kernel_rfl) rfl rfl rfl rfl rfl (op_fieldAddrC (n := 8) fa132_0 rfl rfl rfl) ?_
              refine TZ_pure 3 (by kernel_rfl) rfl rfl rfl rfl rfl (op_fieldAddrC (n := 2) fa77_3 rfl rfl rfl) ?_
              refine TZ_pure 4 (by kernel_rfl) rfl rfl rfl rfl rfl (op_load_agg ag75 sz75 rfl rfl rfl) ?_
              refine TZ_pure 5 (by kernel_rfl) rfl rfl rfl rfl rfl (op_move rfl) ?_
              refine TZ_trAt 160 (x' := .cp [.int .i64 o8.Stmt.Kind, .int .i64 o8.Stmt.Var, .int .i64 o8.Stmt.Event, .int .i64 o8.Stmt.Sum.Const, .sl 1 (List.map a_i64 o8.Stmt.Sum.Coeffs), .int .i64 o8.Stmt.Index.Const, .sl 1 (List.map a_i64 o8.Stmt.Index.Coeffs), .sl 2 (List.map a_Term o8.Stmt.Facts), .int .i64 o8.at_, .sl 1 (List.map a_Ptree o8.kids)]) rfl (TrR_open (un_tree_eq ho8)) rfl ?_
              refine TZ_pure 6 (by kernel_rfl) rfl rfl rfl rfl rfl (op_nilCheck rfl rfl) ?_
              refine TZ_pure 7 (by kernel_rfl) rfl rfl rfl rfl rfl (op_fieldAddrC (n := 8) fa132_0 rfl rfl rfl) ?_
              refine TZ_pure 8 (by kernel_rfl) rfl rfl rfl rfl rfl (op_fieldAddrC (n := 1) fa77_1 rfl rfl rfl) ?_
              refine TZ_pure 9 (by kernel_rfl) rfl rfl rfl rfl rfl (op_load_one ag2 rfl rfl) ?_
              refine TZ_one 10 (by kernel_rfl) rfl ?_
              refine TL_callF (c_impl_Term_isVariable o8.Stmt.Sum o8.Stmt.Var r165 hr165) Try.call105 rfl rfl rfl rfl rfl ?_
              refine TL_nil ?_
              refine TZ_done (by kernel_rfl) ?_
              refine T_cond rfl (fun hq => ?_) (fun hq => ?_)
              · replace hm := condT hq hm
                refine T_seq ?_
                refine T_region ?_
                refine TL_pure rfl rfl rfl rfl (op_move rfl) ?_
                refine TL_pure rfl rfl rfl rfl (op_assign rfl) ?_
                refine TL_nil ?_
                refine T_freezeB 2892 (by rw [hF]; rfl) rfl rfl rfl rfl ?_
                refine T_nilAt 2 (x' := .cp [.int .i64 (0 : Int), .int .i64 (0 : Int), .int .i64 (0 : Int), .int .i64 (0 : Int), .sl 1 (List.map a_i64 ([] : List Int)), .int .i64 (0 : Int), .sl 1 (List.map a_i64 ([] : List Int)), .sl 2 (List.map a_Term ([] : List Term)), .int .i64 (0 : Int), .sl 1 (List.map a_Ptree ([] : List Ptree))]) rfl (⟨_, rfl, ⟨_, _, rfl, rfl, ⟨_, _, rfl, rfl, ⟨_, _, rfl, rfl, ⟨_, _, rfl, rfl, ⟨_, _, rfl, .inr ⟨_, rfl⟩, ⟨_, _, rfl, rfl, ⟨_, _, rfl, .inr ⟨_, rfl⟩, ⟨_, _, rfl, .inr ⟨_, rfl⟩, ⟨_, _, rfl, rfl, ⟨_, _, rfl, .inr ⟨_, rfl⟩, rfl⟩⟩⟩⟩⟩⟩⟩⟩⟩⟩⟩) rfl ?_
                refine T_trAt 2 (x' := a_Ptree (re_tree (tree.mk (Stmt.mk (0 : Int) (0 : Int) (0 : Int) (Term.mk (0 : Int) ([] : List Int)) (Term.mk (0 : Int) ([] : List Int)) ([] : List Term)) (0 : Int) ([] : List Ptree)))) rfl (TrR_fold (re_tree_eq (tree.mk (Stmt.mk (0 : Int) (0 : Int) (0 : Int) (Term.mk (0 : Int) ([] : List Int)) (Term.mk (0 : Int) ([] : List Int)) ([] : List Term)) (0 : Int) ([] : List Ptree)))) rfl ?_
                refine T_keepH [2] [] rfl rfl rfl rfl (by rw [hF]; rfl) ?_
                refine T_ret ?_
                obtain rfl := someI hm
                refine ⟨[_], [], ⟨rfl, trivial⟩, ?_, rfl, rfl, rfl, rfl⟩
                rfl
              · replace hm := condF hq hm
                refine T_skip ?_
                refine T_seq ?_
                refine T_region ?_
                refine TL_pure rfl rfl rfl rfl (op_move rfl) ?_
                refine TL_pure rfl rfl rfl rfl (op_assign rfl) ?_
                refine TL_nil ?_
                refine T_freeze 70001 (by rw [hF]; rfl) rfl rfl rfl ?_
                refine T_freezeB 11 (by rw [hF]; rfl) rfl rfl rfl rfl ?_
                refine T_trAt 2 (x' := a_Ptree (re_tree (tree.mk o8.Stmt (0 : Int) u0))) rfl (TrR_fold (re_tree_eq (tree.mk o8.Stmt (0 : Int) u0))) rfl ?_
                refine T_keepH [2] [] rfl rfl rfl rfl (by rw [hF]; rfl) ?_
                refine T_ret ?_
                obtain rfl := someI hm
                refine ⟨[_], [], ⟨rfl, trivial⟩, ?_, rfl, rfl, rfl, rfl⟩
                rfl
            · replace hm := condF hq hm
              refine T_skip ?_
              refine T_seq ?_
              refine T_region ?_
              refine TL_pure rfl rfl rfl rfl (op_move rfl) ?_
              refine TL_pure rfl rfl rfl rfl (op_assign rfl) ?_
              refine TL_nil ?_
              refine T_freeze 70001 (by rw [hF]; rfl) rfl rfl rfl ?_
              refine T_freezeB 11 (by rw [hF]; rfl) rfl rfl rfl rfl ?_
              refine T_trAt 2 (x' := a_Ptree (re_tree (tree.mk o8.Stmt (0 : Int) u0))) rfl (TrR_fold (re_tree_eq (tree.mk o8.Stmt (0 : Int) u0))) rfl ?_
              refine T_keepH [2] [] rfl rfl rfl rfl (by rw [hF]; rfl) ?_
              refine T_ret ?_
              obtain rfl := someI hm
              refine ⟨[_], [], ⟨rfl, trivial⟩, ?_, rfl, rfl, rfl, rfl⟩
              rfl
  · refine T_seq ?_
    refine T_region ?_
    refine TL_pure rfl rfl rfl rfl (op_lss rfl rfl) ?_
    refine TL_nil ?_
    refine T_seq ?_
    refine T_if_false rfl (decide_eq_false (by simp)) ?_
    refine T_keepH [0, 3] [11, 70001] rfl rfl rfl rfl (by rw [hF]; rfl) ?_
    refine T_exit ?_
    exact hx0 s0 hm
  · unfold m_impl_tree_simplified_F_L0 at hm
    refine T_seq ?_
    refine T_region ?_
    refine TL_pure rfl rfl rfl rfl (op_lss rfl rfl) ?_
    refine TL_nil ?_
    refine T_seq ?_
    refine T_if_true rfl (decide_eq_true (Int.ofNat_lt.2 hlt0)) ?_
    refine T_skip ?_
    refine T_seq ?_
    refine T_block ?_
    refine T_seq ?_
    refine T_region ?_
    refine TL_pure rfl rfl rfl rfl (op_index_sl el129 rfl rfl rfl (get_map hxn0) rfl) ?_
    refine TL_pure rfl rfl rfl rfl (op_load_one ag88 rfl rfl) ?_
    refine TL_pure rfl rfl rfl rfl (op_assign rfl) ?_
    refine TL_nil ?_
    refine T_drawZ [7, 8, 11] mix (by kernel_rfl) rfl ?_
    obtain ⟨r29, hr29, hm⟩ := bindS hm
    obtain ⟨q31, hq31, hm⟩ := bindS hm
    refine TZ_pure 0 (by kernel_rfl) rfl rfl rfl rfl rfl (op_move rfl) ?_
    refine TZ_pure 1 (by kernel_rfl) rfl rfl rfl rfl rfl (op_move rfl) ?_
    refine TZ_pure 2 (by kernel_rfl) rfl rfl rfl rfl rfl (op_nilCheck rfl rfl) ?_
    refine TZ_pure 3 (by kernel_rfl) rfl rfl rfl rfl rfl (op_fieldAddr fa132_2 rfl rfl) ?_
    refine TZ_pure 5 (by kernel_rfl) rfl rfl rfl rfl rfl (op_move rfl) ?_
    refine TZ_cut 6 [true, true, true, true, true, true, false, false, false, false, false, false] ⟨[(0, a_Ptree p0), (3, .ptr 11 0 0), (5, a_Ptree x0), (17, .sl 1 (List.map a_Ptree o8.kids)), (18, .int .i64 (o8.kids.length : Int)), (19, .int .i64 (n0 : Int)), (20, .bool (decide ((n0 : Int) < (o8.kids.length : Int)))), (21, .cp [a_Ptree x0]), (22, a_Ptree x0), (23, .ptr 11 0 0), (24, .ptr 11 0 0), (25, .ptr 11 0 0), (26, .ptr 11 0 9), (27, .ow 70001), (28, a_Ptree x0)], [(11, .box [.int .i64 o8.Stmt.Kind, .int .i64 o8.Stmt.Var, .int .i64 o8.Stmt.Event, .int .i64 o8.Stmt.Sum.Const, .sl 1 (List.map a_i64 o8.Stmt.Sum.Coeffs), .int .i64 o8.Stmt.Index.Const, .sl 1 (List.map a_i64 o8.Stmt.Index.Coeffs), .sl 2 (List.map a_Term o8.Stmt.Facts), .int .i64 (0 : Int), .ow 70001]), (70001, .arr ⟨false, false⟩ 1 88 (List.map a_Ptree s0))]⟩ ?_ (fun hS1931_0 => ?_)
    · refine TZ_one 6 (by kernel_rfl) rfl ?_
      refine TL_callT (hrec_impl_tree_simplified x0 r29 hr29) Try.call69 rfl rfl rfl rfl rfl ?_
      refine TL_nil ?_
      refine TZ_one 7 (by kernel_rfl) rfl ?_
      refine TL_buildSlice 2572 (es := List.map a_Ptree [r29]) el129 z88 rfl rfl rfl rfl rfl rfl rfl rfl rfl ?_
      refine TL_nil ?_
      refine TZ_one 8 (by kernel_rfl) rfl ?_
      refine TL_appendT (f := a_Ptree) (a := s0) (b := [r29]) el129 z88 rfl rfl rfl rfl rfl rfl rfl (capI_spec hq31) rfl rfl rfl rfl rfl ?_
      refine TL_nil ?_
      refine TZ_pure 9 (by kernel_rfl) rfl rfl rfl rfl rfl (op_nilCheck rfl rfl) ?_
      refine TZ_pure 10 (by kernel_rfl) rfl rfl rfl rfl rfl (op_fieldAddr fa132_2 rfl rfl) ?_
      refine TZ_one 11 (by kernel_rfl) rfl ?_
      refine TL_store_box sz129 rfl rfl rfl rfl rfl rfl rfl rfl rfl ?_
      refine TL_nil ?_
      refine TZ_done (by kernel_rfl) ?_
      refine T_region ?_
      refine TL_pure rfl rfl rfl rfl (op_addN rfl rfl (Nat.lt_of_lt_of_le hlt0 hlen18)) ?_
      refine TL_pure rfl rfl rfl rfl (op_move rfl) ?_
      refine TL_nil ?_
      refine TR_keepH [0, 3, 17, 18, 19] [11, 70001] rfl rfl rfl rfl (by rw [hF]; rfl) ?_
      obtain rfl := someI hm
      have hn := CtlOK_next hc0
      exact hn _ rfl
    refine TZ_cut 5 [true, true, true, true, true, true, true, false, false, false, false, false] ⟨[(0, a_Ptree p0), (3, .ptr 11 0 0), (5, a_Ptree x0), (17, .sl 1 (List.map a_Ptree o8.kids)), (18, .int .i64 (o8.kids.length : Int)), (19, .int .i64 (n0 : Int)), (20, .bool (decide ((n0 : Int) < (o8.kids.length : Int)))), (21, .cp [a_Ptree x0]), (22, a_Ptree x0), (23, .ptr 11 0 0), (24, .ptr 11 0 0), (25, .ptr 11 0 0), (26, .ptr 11 0 9), (27, .ow 70001), (28, a_Ptree x0), (29, a_Ptree r29)], [(11, .box [.int .i64 o8.Stmt.Kind, .int .i64 o8.Stmt.Var, .int .i64 o8.Stmt.Event, .int .i64 o8.Stmt.Sum.Const, .sl 1 (List.map a_i64 o8.Stmt.Sum.Coeffs), .int .i64 o8.Stmt.Index.Const, .sl 1 (List.map a_i64 o8.Stmt.Index.Coeffs), .sl 2 (List.map a_Term o8.Stmt.Facts), .int .i64 (0 : Int), .ow 70001]), (70001, .arr ⟨false, false⟩ 1 88 (List.map a_Ptree s0))]⟩ ?_ (fun hS1931_1 => ?_)
    · refine TZ_one 7 (by kernel_rfl) rfl ?_
      refine TL_buildSlice 2572 (es := List.map a_Ptree [r29]) el129 z88 rfl rfl rfl rfl rfl rfl rfl rfl rfl ?_
      refine TL_nil ?_
      refine TZ_one 8 (by kernel_rfl) rfl ?_
      refine TL_appendT (f := a_Ptree) (a := s0) (b := [r29]) el129 z88 rfl rfl rfl rfl rfl rfl rfl (capI_spec hq31) rfl rfl rfl rfl rfl ?_
      refine TL_nil ?_
      refine TZ_pure 9 (by kernel_rfl) rfl rfl rfl rfl rfl (op_nilCheck rfl rfl) ?_
      refine TZ_pure 10 (by kernel_rfl) rfl rfl rfl rfl rfl (op_fieldAddr fa132_2 rfl rfl) ?_
      refine TZ_one 11 (by kernel_rfl) rfl ?_
      refine TL_store_box sz129 rfl rfl rfl rfl rfl rfl rfl rfl rfl ?_
      refine TL_nil ?_
      refine TZ_done (by kernel_rfl) ?_
      refine T_region ?_
      refine TL_pure rfl rfl rfl rfl (op_addN rfl rfl (Nat.lt_of_lt_of_le hlt0 hlen18)) ?_
      refine TL_pure rfl rfl rfl rfl (op_move rfl) ?_
      refine TL_nil ?_
      refine TR_keepH [0, 3, 17, 18, 19] [11, 70001] rfl rfl rfl rfl (by rw [hF]; rfl) ?_
      obtain rfl := someI hm
      have hn := CtlOK_next hc0
      exact hn _ rfl
    refine TZ_cut 5 [true, true, true, true, false, true, true, true, false, false, false, false] ⟨[(0, a_Ptree p0), (3, .ptr 11 0 0), (5, a_Ptree x0), (17, .sl 1 (List.map a_Ptree o8.kids)), (18, .int .i64 (o8.kids.length : Int)), (19, .int .i64 (n0 : Int)), (20, .bool (decide ((n0 : Int) < (o8.kids.length : Int)))), (21, .cp [a_Ptree x0]), (22, a_Ptree x0), (23, .ptr 11 0 0), (24, .ptr 11 0 0), (25, .ptr 11 0 0), (26, .ptr 11 0 9), (28, a_Ptree x0), (29, a_Ptree r29), (30, .ow 2572)], [(11, .box [.int .i64 o8.Stmt.Kind, .int .i64 o8.Stmt.Var, .int .i64 o8.Stmt.Event, .int .i64 o8.Stmt.Sum.Const, .sl 1 (List.map a_i64 o8.Stmt.Sum.Coeffs), .int .i64 o8.Stmt.Index.Const, .sl 1 (List.map a_i64 o8.Stmt.Index.Coeffs), .sl 2 (List.map a_Term o8.Stmt.Facts), .int .i64 (0 : Int), .ow 70001]), (2572, .arr ⟨false, false⟩ 1 88 (List.map a_Ptree [r29])), (70001, .arr ⟨false, false⟩ 1 88 (List.map a_Ptree s0))]⟩ ?_ (fun hS1931_2 => ?_)
    · refine TZ_pure 4 (by kernel_rfl) rfl rfl rfl rfl rfl (op_load_one ag129 rfl rfl) ?_
      refine TZ_one 8 (by kernel_rfl) rfl ?_
      refine TL_appendT (f := a_Ptree) (a := s0) (b := [r29]) el129 z88 rfl rfl rfl rfl rfl rfl rfl (capI_spec hq31) rfl rfl rfl rfl rfl ?_
      refine TL_nil ?_
      refine TZ_pure 9 (by kernel_rfl) rfl rfl rfl rfl rfl (op_nilCheck rfl rfl) ?_
      refine TZ_pure 10 (by kernel_rfl) rfl rfl rfl rfl rfl (op_fieldAddr fa132_2 rfl rfl) ?_
      refine TZ_one 11 (by kernel_rfl) rfl ?_
      refine TL_store_box sz129 rfl rfl rfl rfl rfl rfl rfl rfl rfl ?_
      refine TL_nil ?_
      refine TZ_done (by kernel_rfl) ?_
      refine T_region ?_
      refine TL_pure rfl rfl rfl rfl (op_addN rfl rfl (Nat.lt_of_lt_of_le hlt0 hlen18)) ?_
      refine TL_pure rfl rfl rfl rfl (op_move rfl) ?_
      refine TL_nil ?_
      refine TR_keepH [0, 3, 17, 18, 19] [11, 70001] rfl rfl rfl rfl (by rw [hF]; rfl) ?_
      obtain rfl := someI hm
      have hn := CtlOK_next hc0
      exact hn _ rfl
    refine TZ_cut 6 [true, true, true, true, false, true, true, false, false, false, false, false] ⟨[(0, a_Ptree p0), (3, .ptr 11 0 0), (5, a_Ptree x0), (17, .sl 1 (List.map a_Ptree o8.kids)), (18, .int .i64 (o8.kids.length : Int)), (19, .int .i64 (n0 : Int)), (20, .bool (decide ((n0 : Int) < (o8.kids.length : Int)))), (21, .cp [a_Ptree x0]), (22, a_Ptree x0), (23, .ptr 11 0 0), (24, .ptr 11 0 0), (25, .ptr 11 0 0), (26, .ptr 11 0 9), (28, a_Ptree x0), (29, a_Ptree r29)], [(11, .box [.int .i64 o8.Stmt.Kind, .int .i64 o8.Stmt.Var, .int .i64 o8.Stmt.Event, .int .i64 o8.Stmt.Sum.Const, .sl 1 (List.map a_i64 o8.Stmt.Sum.Coeffs), .int .i64 o8.Stmt.Index.Const, .sl 1 (List.map a_i64 o8.Stmt.Index.Coeffs), .sl 2 (List.map a_Term o8.Stmt.Facts), .int .i64 (0 : Int), .ow 70001]), (70001, .arr ⟨false, false⟩ 1 88 (List.map a_Ptree s0))]⟩ ?_ (fun hS1931_3 => ?_)
    · refine TZ_each [4, 7] (by kernel_rfl) rfl ?_
      refine ⟨?_, ?_⟩
      · refine ⟨_, rfl, ?_⟩
        refine TL_pure rfl rfl rfl rfl (op_load_one ag129 rfl rfl) ?_
        refine TL_nil ?_
        refine TZ_keepH [0, 3, 5, 17, 18, 19, 20, 21, 22, 23, 24, 25, 26, 27, 28, 29] [11, 70001] rfl rfl rfl rfl (by rw [hF]; rfl) ?_
        exact hS1931_1
      · refine ⟨_, rfl, ?_⟩
        refine TL_buildSlice 2572 (es := List.map a_Ptree [r29]) el129 z88 rfl rfl rfl rfl rfl rfl rfl rfl rfl ?_
        refine TL_nil ?_
        refine TZ_keepH [0, 3, 5, 17, 18, 19, 20, 21, 22, 23, 24, 25, 26, 28, 29, 30] [11, 2572, 70001] rfl rfl rfl rfl (by rw [hF]; rfl) ?_
        exact hS1931_2
    refine TZ_each [4, 6] (by kernel_rfl) rfl ?_
    refine ⟨?_, ?_⟩
    · refine ⟨_, rfl, ?_⟩
      refine TL_pure rfl rfl rfl rfl (op_load_one ag129 rfl rfl) ?_
      refine TL_nil ?_
      refine TZ_keepH [0, 3, 5, 17, 18, 19, 20, 21, 22, 23, 24, 25, 26, 27, 28] [11, 70001] rfl rfl rfl rfl (by rw [hF]; rfl) ?_
      exact hS1931_0
    · refine ⟨_, rfl, ?_⟩
      refine TL_callT (hrec_impl_tree_simplified x0 r29 hr29) Try.call69 rfl rfl rfl rfl rfl ?_
      refine TL_nil ?_
      refine TZ_keepH [0, 3, 5, 17, 18, 19, 20, 21, 22, 23, 24, 25, 26, 28, 29] [11, 70001] rfl rfl rfl rfl (by rw [hF]; rfl) ?_
      exact hS1931_3
theorem c_impl_tree_simplified : ∀ (n : Nat) (p0 : Ptree) (out : Ptree), m_impl_tree_simplified n p0 = some out → ACall Try.prog 69 [a_Ptree p0] [] (a_Ptree out) [] := by
  intro n
  induction n with
  | zero => intro p0 out hm; cases hm
  | succ n ih => intro p0 out hm; exact c_impl_tree_simplified_F (m_impl_tree_simplified n) ih p0 out hm
theorem c_impl_copyInts (p0 : List Int) (out : List Int) (hm : m_impl_copyInts p0 = some out) : ACall Try.prog 116 [.sl 1 (List.map a_i64 p0)] [] (.ow 1000) [(1000, .arr ⟨false, true⟩ 1 2 (List.map a_i64 out))] := by
  refine ACall.intro Try.func116 rfl Try.ntmps116 rfl (fun F hF => ?_)
  unfold m_impl_copyInts at hm
  refine T_seq ?_
  refine T_region ?_
  refine TL_pure rfl rfl rfl rfl (op_assign rfl) ?_
  refine TL_nil ?_
  refine T_seq ?_
  refine T_region ?_
  refine TL_buildSlice 11 (es := List.map a_i64 ([] : List Int)) el29 z2 rfl rfl rfl rfl rfl rfl rfl rfl rfl ?_
  refine TL_pure rfl rfl rfl rfl (op_move rfl) ?_
  obtain ⟨q5, hq5, hm⟩ := bindS hm
  refine TL_appendT (f := a_i64) (a := ([] : List Int)) (b := p0) el29 z2 rfl rfl rfl rfl rfl rfl rfl (capI_spec hq5) rfl rfl rfl rfl rfl ?_
  refine TL_pure rfl rfl rfl rfl (op_assign rfl) ?_
  refine TL_nil ?_
  refine T_keepH [2] [11] rfl rfl rfl rfl (by rw [hF]; rfl) ?_
  refine T_deepen 11 (p' := false) (List.map a_i64 (([] : List Int) ++ p0)) (by rw [hF]; rfl) rfl (ElR.map (f := a_i64) (g := a_i64) (fun _ => ⟨⟨rfl, rfl⟩, trivial⟩) (([] : List Int) ++ p0)) rfl rfl rfl ?_
  refine T_ren [(11, 1000)] rfl rfl rfl (by rw [hF]; rfl) ?_
  refine T_ret ?_
  obtain rfl := someI hm
  refine ⟨[_], [1000], ⟨rfl, trivial⟩, ?_, rfl, rfl, rfl, rfl⟩
  rfl
theorem c_impl_Term_own (p0 : Term) (out : Term) (hm : m_impl_Term_own p0 = some out) : ACall Try.prog 87 [.agg [.int .i64 p0.Const, .sl 1 (List.map a_i64 p0.Coeffs)]] [] (.agg [.int .i64 out.Const, .ow 1000]) [(1000, .arr ⟨false, true⟩ 1 2 (List.map a_i64 out.Coeffs))] := by
  refine ACall.intro Try.func87 rfl Try.ntmps87 rfl (fun F hF => ?_)
  unfold m_impl_Term_own at hm
  refine T_seq ?_
  refine T_region ?_
  refine TL_box 11 rfl rfl rfl rfl rfl rfl rfl ?_
  refine TL_alloc 12 z75 rfl rfl rfl rfl rfl rfl rfl ?_
  refine TL_nil ?_
  refine T_seq ?_
  refine T_drawZ [6] mix (by kernel_rfl) rfl ?_
  obtain ⟨r7, hr7, hm⟩ := bindS hm
  refine TZ_pure 0 (by kernel_rfl) rfl rfl rfl rfl rfl (op_fieldAddr fa75_0 rfl rfl) ?_
  refine TZ_pure 1 (by kernel_rfl) rfl rfl rfl rfl rfl (op_load_one ag2 rfl rfl) ?_
  refine TZ_pure 2 (by kernel_rfl) rfl rfl rfl rfl rfl (op_fieldAddr fa75_1 rfl rfl) ?_
  refine TZ_pure 3 (by kernel_rfl) rfl rfl rfl rfl rfl (op_load_one ag29 rfl rfl) ?_
  refine TZ_one 4 (by kernel_rfl) rfl ?_
  refine TL_callO [(1000, 14)] (c_impl_copyInts p0.Coeffs r7 hr7) Try.call116 rfl rfl rfl rfl rfl rfl rfl rfl rfl rfl rfl rfl rfl ?_
  refine TL_nil ?_
  refine TZ_pure 5 (by kernel_rfl) rfl rfl rfl rfl rfl (op_buildP pl75 z75 rfl rfl rfl rfl rfl) ?_
  refine TZ_one 6 (by kernel_rfl) rfl ?_
  refine TL_store_box sz75 rfl rfl rfl rfl rfl rfl rfl rfl rfl ?_
  refine TL_nil ?_
  refine TZ_done (by kernel_rfl) ?_
  refine T_keepH [2] [12, 14] rfl rfl rfl rfl (by rw [hF]; rfl) ?_
  refine T_ren [(12, 12), (14, 1000)] rfl rfl rfl (by rw [hF]; rfl) ?_
  refine T_ret ?_
  obtain rfl := someI hm
  refine ⟨[_], [1000], ⟨⟨_, _, rfl, rfl, .inr ⟨ag75, _, _, sz75, rfl, rfl⟩⟩, trivial⟩, ?_, rfl, rfl, rfl, rfl⟩
  rfl
theorem c_impl_ownTerms (p0 : List Term) (out : List Term) (hm : m_impl_ownTerms p0 = some out) : ACall Try.prog 48 [.sl 2 (List.map a_Term p0)] [] (.ow 1000) [(1000, .arr ⟨false, true⟩ 2 75 (List.map a_Term out))] := by
  refine ACall.intro Try.func48 rfl Try.ntmps48 rfl (fun F hF => ?_)
  unfold m_impl_ownTerms at hm
  refine T_seq ?_
  refine T_region ?_
  refine TL_pure rfl rfl rfl rfl (op_assign rfl) ?_
  refine TL_nil ?_
  refine T_seq ?_
  refine T_region ?_
  refine TL_pure rfl rfl rfl rfl (op_assign rfl) ?_
  refine TL_nil ?_
  refine T_seq ?_
  refine T_seq ?_
  refine T_region ?_
  refine TL_pure rfl rfl rfl rfl (op_move rfl) ?_
  refine TL_pure rfl rfl rfl rfl (op_lenT Try.underlying24 rfl (List.length_map _)) ?_
  refine TL_fact (fun _ _ _ hr => RelP.slLen (i := 6) rfl hr) (fun hlen7 => ?_)
  rw [List.length_map] at hlen7
  refine TL_pure rfl rfl rfl rfl (op_move rfl) ?_
  refine TL_nil ?_
  refine T_block ?_
  refine T_ownNil 3 21 ⟨false, true⟩ 75 rfl rfl (sz := 2) rfl rfl rfl ?_
  refine T_keepH [3, 6, 7, 8] [21] rfl rfl rfl rfl (by rw [hF]; rfl) ?_
  refine T_ren [(21, 70000)] rfl rfl rfl (by rw [hF]; rfl) ?_
  refine T_loop ?_
  obtain ⟨u0, hl0, hm⟩ := bindS hm
  refine TR_forL2 p0 (m_impl_ownTerms_L0) (fun (s0 : List Term) => s0) (fun n0 (s0 : List Term) => ⟨[(3, .ow 70000), (6, .sl 2 (List.map a_Term p0)), (7, .int .i64 (p0.length : Int)), (8, .int .i64 (n0 : Int))], [(70000, .arr ⟨false, true⟩ 2 75 (List.map a_Term s0))]⟩) (fun u0 => .exit 0) (fun u0 => ⟨[(3, .ow 70000)], [(70000, .arr ⟨false, true⟩ 2 75 (List.map a_Term u0))]⟩) (fun u0 => m_impl_ownTerms_A0 u0 = some out) hl0 hm (fun u0 hm => ?_) (fun hx0 s0 hm => ?_) (fun hx0 n0 x0 s0 c0 hxn0 hlt0 hm hc0 => ?_)
  · unfold m_impl_ownTerms_A0 at hm
    refine T_seq ?_
    refine T_region ?_
    refine TL_pure rfl rfl rfl rfl (op_move rfl) ?_
    refine TL_pure rfl rfl rfl rfl (op_assign rfl) ?_
    refine TL_nil ?_
    refine T_keepH [2] [70000] rfl rfl rfl rfl (by rw [hF]; rfl) ?_
    refine T_ren [(70000, 1000)] rfl rfl rfl (by rw [hF]; rfl) ?_
    refine T_ret ?_
    obtain rfl := someI hm
    refine ⟨[_], [1000], ⟨rfl, trivial⟩, ?_, rfl, rfl, rfl, rfl⟩
    rfl
  · refine T_seq ?_
    refine T_region ?_
    refine TL_pure rfl rfl rfl rfl (op_lss rfl rfl) ?_
    refine TL_nil ?_
    refine T_seq ?_
    refine T_if_false rfl (decide_eq_false (by simp)) ?_
    refine T_keepH [3] [70000] rfl rfl rfl rfl (by rw [hF]; rfl) ?_
    refine T_exit ?_
    exact hx0 s0 hm
  · unfold m_impl_ownTerms_L0 at hm
    refine T_seq ?_
    refine T_region ?_
    refine TL_pure rfl rfl rfl rfl (op_lss rfl rfl) ?_
    refine TL_nil ?_
    refine T_seq ?_
    refine T_if_true rfl (decide_eq_true (Int.ofNat_lt.2 hlt0)) ?_
    refine T_skip ?_
    refine T_seq ?_
    refine T_block ?_
    refine T_seq ?_
    refine T_region ?_
    refine TL_pure rfl rfl rfl rfl (op_index_sl el24 rfl rfl rfl (get_map hxn0) rfl) ?_
    refine TL_pure rfl rfl rfl rfl (op_load_agg ag75 sz75 rfl rfl rfl) ?_
    refine TL_alloc 18 z75 rfl rfl rfl rfl rfl rfl rfl ?_
    refine TL_store_box sz75 rfl rfl rfl rfl rfl rfl rfl rfl rfl ?_
    refine TL_nil ?_
    refine T_region ?_
    refine TL_pure rfl rfl rfl rfl (op_move rfl) ?_
    refine TL_pure rfl rfl rfl rfl (op_load_agg ag75 sz75 rfl rfl rfl) ?_
    obtain ⟨r14, hr14, hm⟩ := bindS hm
    refine TL_callO [(1000, 19)] (c_impl_Term_own x0 r14 hr14) Try.call87 rfl rfl rfl rfl rfl rfl rfl rfl rfl rfl rfl rfl rfl ?_
    refine TL_buildSliceD (ids := [19]) (es := List.map a_Term [r14]) 20 el24 z75 rfl rfl rfl rfl rfl rfl (by rw [hF]; intro j hj; simp only [List.mem_cons, List.not_mem_nil, or_false] at hj; rcases hj with rfl <;> rfl) rfl rfl rfl rfl rfl rfl ?_
    obtain ⟨q16, hq16, hm⟩ := bindS hm
    refine TL_appendDT (f := a_Term) (a := s0) (b := [r14]) el24 z75 rfl rfl rfl rfl rfl rfl rfl rfl (by rw [hF]; rfl) (capI_spec hq16) rfl rfl rfl rfl rfl ?_
    refine TL_pure rfl rfl rfl rfl (op_assign rfl) ?_
    refine TL_nil ?_
    refine T_region ?_
    refine TL_pure rfl rfl rfl rfl (op_addN rfl rfl (Nat.lt_of_lt_of_le hlt0 hlen7)) ?_
    refine TL_pure rfl rfl rfl rfl (op_move rfl) ?_
    refine TL_nil ?_
    refine TR_keepH [3, 6, 7, 8] [70000] rfl rfl rfl rfl (by rw [hF]; rfl) ?_
    obtain rfl := someI hm
    have hn := CtlOK_next hc0
    exact hn _ rfl
theorem c_impl_ownStmt (p0 : Stmt) (out : Stmt) (hm : m_impl_ownStmt p0 = some out) : ACall Try.prog 47 [.agg [.int .i64 p0.Kind, .int .i64 p0.Var, .int .i64 p0.Event, .int .i64 p0.Sum.Const, .sl 1 (List.map a_i64 p0.Sum.Coeffs), .int .i64 p0.Index.Const, .sl 1 (List.map a_i64 p0.Index.Coeffs), .sl 2 (List.map a_Term p0.Facts)]] [] (.agg [.int .i64 out.Kind, .int .i64 out.Var, .int .i64 out.Event, .int .i64 out.Sum.Const, .ow 1000, .int .i64 out.Index.Const, .ow 1001, .ow 1002]) [(1000, .arr ⟨false, true⟩ 1 2 (List.map a_i64 out.Sum.Coeffs)), (1001, .arr ⟨false, true⟩ 1 2 (List.map a_i64 out.Index.Coeffs)), (1002, .arr ⟨false, true⟩ 2 75 (List.map a_Term out.Facts))] := by
  refine ACall.intro Try.func47 rfl Try.ntmps47 rfl (fun F hF => ?_)
  unfold m_impl_ownStmt at hm
  refine T_seq ?_
  refine T_region ?_
  refine TL_box 11 rfl rfl rfl rfl rfl rfl rfl ?_
  refine TL_alloc 12 z77 rfl rfl rfl rfl rfl rfl rfl ?_
  refine TL_nil ?_
  refine T_seq ?_
  refine T_drawZ [10, 12, 14] mix (by kernel_rfl) rfl ?_
  obtain ⟨r5, hr5, hm⟩ := bindS hm
  obtain ⟨r8, hr8, hm⟩ := bindS hm
  obtain ⟨r11, hr11, hm⟩ := bindS hm
  refine TZ_pure 0 (by kernel_rfl) rfl rfl rfl rfl rfl (op_fieldAddr fa77_3 rfl rfl) ?_
  refine TZ_pure 1 (by kernel_rfl) rfl rfl rfl rfl rfl (op_load_agg ag75 sz75 rfl rfl rfl) ?_
  refine TZ_pure 3 (by kernel_rfl) rfl rfl rfl rfl rfl (op_fieldAddr fa77_4 rfl rfl) ?_
  refine TZ_pure 4 (by kernel_rfl) rfl rfl rfl rfl rfl (op_load_agg ag75 sz75 rfl rfl rfl) ?_
  refine TZ_pure 6 (by kernel_rfl) rfl rfl rfl rfl rfl (op_fieldAddr fa77_5 rfl rfl) ?_
  refine TZ_pure 7 (by kernel_rfl) rfl rfl rfl rfl rfl (op_load_one ag24 rfl rfl) ?_
  refine TZ_one 2 (by kernel_rfl) rfl ?_
  refine TL_callO [(1000, 16)] (c_impl_Term_own p0.Sum r5 hr5) Try.call87 rfl rfl rfl rfl rfl rfl rfl rfl rfl rfl rfl rfl rfl ?_
  refine TL_nil ?_
  refine TZ_pure 9 (by kernel_rfl) rfl rfl rfl rfl rfl (op_fieldAddr fa77_3 rfl rfl) ?_
  refine TZ_one 5 (by kernel_rfl) rfl ?_
  refine TL_callO [(1000, 17)] (c_impl_Term_own p0.Index r8 hr8) Try.call87 rfl rfl rfl rfl rfl rfl rfl rfl rfl rfl rfl rfl rfl ?_
  refine TL_nil ?_
  refine TZ_one 8 (by kernel_rfl) rfl ?_
  refine TL_callO [(1000, 18)] (c_impl_ownTerms p0.Facts r11 hr11) Try.call48 rfl rfl rfl rfl rfl rfl rfl rfl rfl rfl rfl rfl rfl ?_
  refine TL_nil ?_
  refine TZ_one 10 (by kernel_rfl) rfl ?_
  refine TL_store_box sz75 rfl rfl rfl rfl rfl rfl rfl rfl rfl ?_
  refine TL_nil ?_
  refine TZ_pure 11 (by kernel_rfl) rfl rfl rfl rfl rfl (op_fieldAddr fa77_4 rfl rfl) ?_
  refine TZ_one 12 (by kernel_rfl) rfl ?_
  refine TL_store_box sz75 rfl rfl rfl rfl rfl rfl rfl rfl rfl ?_
  refine TL_nil ?_
  refine TZ_pure 13 (by kernel_rfl) rfl rfl rfl rfl rfl (op_fieldAddr fa77_5 rfl rfl) ?_
  refine TZ_one 14 (by kernel_rfl) rfl ?_
  refine TL_store_box sz24 rfl rfl rfl rfl rfl rfl rfl rfl rfl ?_
  refine TL_nil ?_
  refine TZ_done (by kernel_rfl) ?_
  refine T_seq ?_
  refine T_region ?_
  refine TL_pure rfl rfl rfl rfl (op_load_agg ag77 sz77 rfl rfl rfl) ?_
  refine TL_store_box sz77 rfl rfl rfl rfl rfl rfl rfl rfl rfl ?_
  refine TL_nil ?_
  refine T_keepH [2] [12, 16, 17, 18] rfl rfl rfl rfl (by rw [hF]; rfl) ?_
  refine T_ren [(12, 12), (16, 1000), (17, 1001), (18, 1002)] rfl rfl rfl (by rw [hF]; rfl) ?_
  refine T_ret ?_
  obtain rfl := someI hm
  refine ⟨[_], [1000, 1001, 1002], ⟨⟨_, _, rfl, rfl, .inr ⟨ag77, _, _, sz77, rfl, rfl⟩⟩, trivial⟩, ?_, rfl, rfl, rfl, rfl⟩
  rfl
theorem c_impl_tree_body_F (rec_impl_tree_body : Ptree → Option (List Stmt)) (hrec_impl_tree_body : ∀ (p0 : Ptree) (out : List Stmt), rec_impl_tree_body p0 = some out → ACall Try.prog 57 [a_Ptree p0] [] (.ow 1000) [(1000, .arr ⟨false, true⟩ 8 77 (List.map a_Stmt out))]) (p0 : Ptree) (out : List Stmt) (hm : m_impl_tree_body_F rec_impl_tree_body p0 = some out) : ACall Try.prog 57 [a_Ptree p0] [] (.ow 1000) [(1000, .arr ⟨false, true⟩ 8 77 (List.map a_Stmt out))] := by
  refine ACall.intro Try.func57 rfl Try.ntmps57 rfl (fun F hF => ?_)
  unfold m_impl_tree_body_F at hm
  refine T_seq ?_
  refine T_region ?_
  refine TL_pure rfl rfl rfl rfl (op_assign rfl) ?_
  refine TL_nil ?_
  refine T_seq ?_
  refine T_region ?_
  refine TL_pure rfl rfl rfl rfl (op_move rfl) ?_
  obtain ⟨o6, ho6, hm⟩ := bindS hm
  refine TL_trAt 6 (x' := .cp [.int .i64 o6.Stmt.Kind, .int .i64 o6.Stmt.Var, .int .i64 o6.Stmt.Event, .int .i64 o6.Stmt.Sum.Const, .sl 1 (List.map a_i64 o6.Stmt.Sum.Coeffs), .int .i64 o6.Stmt.Index.Const, .sl 1 (List.map a_i64 o6.Stmt.Index.Coeffs), .sl 2 (List.map a_Term o6.Stmt.Facts), .int .i64 o6.at_, .sl 1 (List.map a_Ptree o6.kids)]) rfl (TrR_open (un_tree_eq ho6)) rfl ?_
  refine TL_pure rfl rfl rfl rfl (op_nilCheck rfl rfl) ?_
  refine TL_pure rfl rfl rfl rfl (op_fieldAddrC (n := 8) fa132_0 rfl rfl rfl) ?_
  refine TL_pure rfl rfl rfl rfl (op_load_agg ag77 sz77 rfl rfl rfl) ?_
  obtain ⟨r10, hr10, hm⟩ := bindS hm
  refine TL_callO [(1000, 11), (1001, 12), (1002, 13)] (c_impl_ownStmt o6.Stmt r10 hr10) Try.call47 rfl rfl rfl rfl rfl rfl rfl rfl rfl rfl rfl rfl rfl ?_
  refine TL_buildSliceD (ids := [11, 12, 13]) (es := List.map a_Stmt [r10]) 14 el25 z77 rfl rfl rfl rfl rfl rfl (by rw [hF]; intro j hj; simp only [List.mem_cons, List.not_mem_nil, or_false] at hj; rcases hj with rfl | rfl | rfl <;> rfl) rfl rfl rfl rfl rfl rfl ?_
  refine TL_pure rfl rfl rfl rfl (op_assign rfl) ?_
  refine TL_nil ?_
  refine T_seq ?_
  refine T_seq ?_
  refine T_region ?_
  refine TL_pure rfl rfl rfl rfl (op_move rfl) ?_
  refine TL_trAt 12 (x' := .cp [.int .i64 o6.Stmt.Kind, .int .i64 o6.Stmt.Var, .int .i64 o6.Stmt.Event, .int .i64 o6.Stmt.Sum.Const, .sl 1 (List.map a_i64 o6.Stmt.Sum.Coeffs), .int .i64 o6.Stmt.Index.Const, .sl 1 (List.map a_i64 o6.Stmt.Index.Coeffs), .sl 2 (List.map a_Term o6.Stmt.Facts), .int .i64 o6.at_, .sl 1 (List.map a_Ptree o6.kids)]) rfl (TrR_open (un_tree_eq ho6)) rfl ?_
  refine TL_pure rfl rfl rfl rfl (op_nilCheck rfl rfl) ?_
  refine TL_pure rfl rfl rfl rfl (op_fieldAddr fa132_2 rfl rfl) ?_
  refine TL_pure rfl rfl rfl rfl (op_load_one ag129 rfl rfl) ?_
  refine TL_pure rfl rfl rfl rfl (op_lenT Try.underlying129 rfl (List.length_map _)) ?_
  refine TL_fact (fun _ _ _ hr => RelP.slLen (i := 15) rfl hr) (fun hlen16 => ?_)
  rw [List.length_map] at hlen16
  refine TL_pure rfl rfl rfl rfl (op_move rfl) ?_
  refine TL_nil ?_
  refine T_block ?_
  refine T_keepH [3, 15, 16, 17] [14] rfl rfl rfl rfl (by rw [hF]; rfl) ?_
  refine T_loop ?_
  obtain ⟨u0, hl0, hm⟩ := bindS hm
  refine TR_forL2 o6.kids (m_impl_tree_body_F_L0 rec_impl_tree_body) (fun (s0 : List Stmt) => s0) (fun n0 (s0 : List Stmt) => ⟨[(3, .ow 14), (15, .sl 1 (List.map a_Ptree o6.kids)), (16, .int .i64 (o6.kids.length : Int)), (17, .int .i64 (n0 : Int))], [(14, .arr ⟨false, true⟩ 8 77 (List.map a_Stmt s0))]⟩) (fun u0 => .exit 0) (fun u0 => ⟨[(3, .ow 14)], [(14, .arr ⟨false, true⟩ 8 77 (List.map a_Stmt u0))]⟩) (fun u0 => m_impl_tree_body_F_A0 u0 = some out) hl0 hm (fun u0 hm => ?_) (fun hx0 s0 hm => ?_) (fun hx0 n0 x0 s0 c0 hxn0 hlt0 hm hc0 => ?_)
  · unfold m_impl_tree_body_F_A0 at hm
    refine T_seq ?_
    refine T_region ?_
    refine TL_pure rfl rfl rfl rfl (op_move rfl) ?_
    refine TL_pure rfl rfl rfl rfl (op_assign rfl) ?_
    refine TL_nil ?_
    refine T_keepH [2] [14] rfl rfl rfl rfl (by rw [hF]; rfl) ?_
    refine T_ren [(14, 1000)] rfl rfl rfl (by rw [hF]; rfl) ?_
    refine T_ret ?_
    obtain rfl := someI hm
    refine ⟨[_], [1000], ⟨rfl, trivial⟩, ?_, rfl, rfl, rfl, rfl⟩
    rfl
  · refine T_seq ?_
    refine T_region ?_
    refine TL_pure rfl rfl rfl rfl (op_lss rfl rfl) ?_
    refine TL_nil ?_
    refine T_seq ?_
    refine T_if_false rfl (decide_eq_false (by simp)) ?_
    refine T_keepH [3] [14] rfl rfl rfl rfl (by rw [hF]; rfl) ?_
    refine T_exit ?_
    exact hx0 s0 hm
  · unfold m_impl_tree_body_F_L0 at hm
    refine T_seq ?_
    refine T_region ?_
    refine TL_pure rfl rfl rfl rfl (op_lss rfl rfl) ?_
    refine TL_nil ?_
    refine T_seq ?_
    refine T_if_true rfl (decide_eq_true (Int.ofNat_lt.2 hlt0)) ?_
    refine T_skip ?_
    refine T_seq ?_
    refine T_block ?_
    refine T_seq ?_
    refine T_region ?_
    refine TL_pure rfl rfl rfl rfl (op_index_sl el129 rfl rfl rfl (get_map hxn0) rfl) ?_
    refine TL_pure rfl rfl rfl rfl (op_load_one ag88 rfl rfl) ?_
    refine TL_pure rfl rfl rfl rfl (op_assign rfl) ?_
    refine TL_nil ?_
    refine T_region ?_
    refine TL_pure rfl rfl rfl rfl (op_move rfl) ?_
    refine TL_pure rfl rfl rfl rfl (op_move rfl) ?_
    obtain ⟨r23, hr23, hm⟩ := bindS hm
    refine TL_callO [(1000, 17)] (hrec_impl_tree_body x0 r23 hr23) Try.call57 rfl rfl rfl rfl rfl rfl rfl rfl rfl rfl rfl rfl rfl ?_
    obtain ⟨q24, hq24, hm⟩ := bindS hm
    refine TL_appendDT (f := a_Stmt) (a := s0) (b := r23) el25 z77 rfl rfl rfl rfl rfl rfl rfl rfl (by rw [hF]; rfl) (capI_spec hq24) rfl rfl rfl rfl rfl ?_
    refine TL_pure rfl rfl rfl rfl (op_assign rfl) ?_
    refine TL_nil ?_
    refine T_region ?_
    refine TL_pure rfl rfl rfl rfl (op_addN rfl rfl (Nat.lt_of_lt_of_le hlt0 hlen16)) ?_
    refine TL_pure rfl rfl rfl rfl (op_move rfl) ?_
    refine TL_nil ?_
    refine TR_keepH [3, 15, 16, 17] [14] rfl rfl rfl rfl (by rw [hF]; rfl) ?_
    obtain rfl := someI hm
    have hn := CtlOK_next hc0
    exact hn _ rfl
theorem c_impl_tree_body : ∀ (n : Nat) (p0 : Ptree) (out : List Stmt), m_impl_tree_body n p0 = some out → ACall Try.prog 57 [a_Ptree p0] [] (.ow 1000) [(1000, .arr ⟨false, true⟩ 8 77 (List.map a_Stmt out))] := by
  intro n
  induction n with
  | zero => intro p0 out hm; cases hm
  | succ n ih => intro p0 out hm; exact c_impl_tree_body_F (m_impl_tree_body n) ih p0 out hm
theorem c_impl_SimplifyBody (p0 : List Stmt) (out : (List Stmt) × Bool) (hm : m_impl_SimplifyBody p0 = some out) : ACall Try.prog 34 [.sl 8 (List.map a_Stmt p0)] [] (.tup [.ow 1000, .bool out.2]) [(1000, .arr ⟨false, true⟩ 8 77 (List.map a_Stmt out.1))] := by
  refine ACall.intro Try.func34 rfl Try.ntmps34 rfl (fun F hF => ?_)
  unfold m_impl_SimplifyBody at hm
  refine T_seq ?_
  refine T_region ?_
  refine TL_pure rfl rfl rfl rfl (op_assign rfl) ?_
  refine TL_pure rfl rfl rfl rfl (op_assign rfl) ?_
  refine TL_nil ?_
  refine T_seq ?_
  refine T_region ?_
  refine TL_pure rfl rfl rfl rfl (op_move rfl) ?_
  obtain ⟨r8, hr8, hm⟩ := bindS hm
  refine TL_callT (c_impl_treeOf p0 r8 hr8) Try.call55 rfl rfl rfl rfl rfl ?_
  refine TL_pure rfl rfl rfl rfl (op_move rfl) ?_
  refine TL_pure rfl rfl rfl rfl (op_extract rfl rfl) ?_
  refine TL_pure rfl rfl rfl rfl (op_extract rfl rfl) ?_
  refine TL_pure rfl rfl rfl rfl (op_assign rfl) ?_
  refine TL_pure rfl rfl rfl rfl (op_assign rfl) ?_
  refine TL_nil ?_
  refine T_seq ?_
  refine T_seq ?_
  refine T_region ?_
  refine TL_pure rfl rfl rfl rfl (op_move rfl) ?_
  refine TL_pure rfl rfl rfl rfl (op_not rfl) ?_
  refine TL_nil ?_
  refine T_cond rfl (fun hq => ?_) (fun hq => ?_)
  · replace hm := condT hq hm
    refine T_seq ?_
    refine T_region ?_
    refine TL_pure rfl rfl rfl rfl (op_assign rfl) ?_
    refine TL_pure rfl rfl rfl rfl (op_assign rfl) ?_
    refine TL_nil ?_
    refine T_ownNil 2 11 ⟨false, true⟩ 77 rfl rfl (sz := 8) rfl rfl rfl ?_
    refine T_keepH [2, 3] [11] rfl rfl rfl rfl (by rw [hF]; rfl) ?_
    refine T_ren [(11, 1000)] rfl rfl rfl (by rw [hF]; rfl) ?_
    refine T_ret ?_
    obtain rfl := someI hm
    refine ⟨[_, _], [1000], ⟨rfl, rfl, trivial⟩, ?_, rfl, rfl, rfl, rfl⟩
    rfl
  · replace hm := condF hq hm
    refine T_skip ?_
    refine T_seq ?_
    refine T_region ?_
    refine TL_pure rfl rfl rfl rfl (op_move rfl) ?_
    obtain ⟨r14, hr14, hm⟩ := bindS hm
    refine TL_callT (c_impl_tree_simplified 1000 r8.1 r14 hr14) Try.call69 rfl rfl rfl rfl rfl ?_
    obtain ⟨r15, hr15, hm⟩ := bindS hm
    refine TL_callO [(1000, 12)] (c_impl_tree_body 1000 r14 r15 hr15) Try.call57 rfl rfl rfl rfl rfl rfl rfl rfl rfl rfl rfl rfl rfl ?_
    refine TL_pure rfl rfl rfl rfl (op_assign rfl) ?_
    refine TL_pure rfl rfl rfl rfl (op_assign rfl) ?_
    refine TL_nil ?_
    refine T_keepH [2, 3] [12] rfl rfl rfl rfl (by rw [hF]; rfl) ?_
    refine T_ren [(12, 1000)] rfl rfl rfl (by rw [hF]; rfl) ?_
    refine T_ret ?_
    obtain rfl := someI hm
    refine ⟨[_, _], [1000], ⟨rfl, rfl, trivial⟩, ?_, rfl, rfl, rfl, rfl⟩
    rfl
theorem c_laws_eqInt64S (p0 : List Int) (p1 : List Int) (out : Bool) (hm : m_laws_eqInt64S p0 p1 = some out) : ACall Try.prog 77 [.sl 1 (List.map a_i64 p0), .sl 1 (List.map a_i64 p1)] [] (.bool out) [] := by
  refine ACall.intro Try.func77 rfl Try.ntmps77 rfl (fun F hF => ?_)
  unfold m_laws_eqInt64S at hm
  refine T_seq ?_
  refine T_region ?_
  refine TL_pure rfl rfl rfl rfl (op_assign rfl) ?_
  refine TL_nil ?_
  refine T_seq ?_
  refine T_seq ?_
  refine T_region ?_
  refine TL_pure rfl rfl rfl rfl (op_move rfl) ?_
  refine TL_pure rfl rfl rfl rfl (op_lenT Try.underlying29 rfl (List.length_map _)) ?_
  refine TL_fact (fun _ _ _ hr => RelP.slLen (i := 6) rfl hr) (fun hlen7 => ?_)
  rw [List.length_map] at hlen7
  refine TL_pure rfl rfl rfl rfl (op_move rfl) ?_
  refine TL_pure rfl rfl rfl rfl (op_lenT Try.underlying29 rfl (List.length_map _)) ?_
  refine TL_fact (fun _ _ _ hr => RelP.slLen (i := 8) rfl hr) (fun hlen9 => ?_)
  rw [List.length_map] at hlen9
  refine TL_pure rfl rfl rfl rfl (op_neq rfl rfl) ?_
  refine TL_nil ?_
  refine T_cond rfl (fun hq => ?_) (fun hq => ?_)
  · replace hm := condT hq hm
    refine T_seq ?_
    refine T_region ?_
    refine TL_pure rfl rfl rfl rfl (op_assign rfl) ?_
    refine TL_nil ?_
    refine T_keepH [4] [] rfl rfl rfl rfl (by rw [hF]; rfl) ?_
    refine T_ret ?_
    obtain rfl := someI hm
    refine ⟨[_], [], ⟨rfl, trivial⟩, ?_, rfl, rfl, rfl, rfl⟩
    rfl
  · replace hm := condF hq hm
    refine T_skip ?_
    refine T_seq ?_
    refine T_seq ?_
    refine T_region ?_
    refine TL_pure rfl rfl rfl rfl (op_assign rfl) ?_
    refine TL_nil ?_
    refine T_block ?_
    refine T_keepH [0, 1, 5] [] rfl rfl rfl rfl (by rw [hF]; rfl) ?_
    refine T_loop ?_
    obtain ⟨u0, hl0, hm⟩ := bindS hm
    refine TR_iter2 (m_laws_eqInt64S_L0 p0 p1) (fun (s0 : Int) => ⟨[(0, .sl 1 (List.map a_i64 p0)), (1, .sl 1 (List.map a_i64 p1)), (5, .int .i64 s0)], []⟩) (fun u0 => match u0 with | .inl u0 => .exit 0 | .inr u0 => .ret) (fun u0 => match u0 with | .inl u0 => ⟨[], []⟩ | .inr u0 => ⟨[(4, .bool u0)], []⟩) (fun u0 => m_laws_eqInt64S_A0 u0 = some out) hl0 hm (fun u0 hm => ?_) (fun hx0 s0 c0 hm hc0 => ?_)
    · rcases u0 with u0 | u0
      · unfold m_laws_eqInt64S_A0 at hm
        refine T_seq ?_
        refine T_region ?_
        refine TL_pure rfl rfl rfl rfl (op_assign rfl) ?_
        refine TL_nil ?_
        refine T_keepH [4] [] rfl rfl rfl rfl (by rw [hF]; rfl) ?_
        refine T_ret ?_
        obtain rfl := someI hm
        refine ⟨[_], [], ⟨rfl, trivial⟩, ?_, rfl, rfl, rfl, rfl⟩
        rfl
      · unfold m_laws_eqInt64S_A0 at hm
        obtain rfl := someI hm
        refine ⟨[_], [], ⟨rfl, trivial⟩, ?_, rfl, rfl, rfl, rfl⟩
        rfl
    · unfold m_laws_eqInt64S_L0 at hm
      refine T_seq ?_
      refine T_seq ?_
      refine T_region ?_
      refine TL_pure rfl rfl rfl rfl (op_move rfl) ?_
      refine TL_pure rfl rfl rfl rfl (op_move rfl) ?_
      refine TL_pure rfl rfl rfl rfl (op_lenT Try.underlying29 rfl (List.length_map _)) ?_
      refine TL_pure rfl rfl rfl rfl (op_lss rfl rfl) ?_
      refine TL_nil ?_
      refine T_cond rfl (fun hq => ?_) (fun hq => ?_)
      · replace hm := condT hq hm
        refine T_skip ?_
        refine T_seq ?_
        refine T_block ?_
        refine T_seq ?_
        refine T_drawZ [] mix (by kernel_rfl) rfl ?_
        obtain ⟨x19, hx19, hm⟩ := bindS hm
        obtain ⟨x23, hx23, hm⟩ := bindS hm
        refine TZ_pure 0 (by kernel_rfl) rfl rfl rfl rfl rfl (op_move rfl) ?_
        refine TZ_pure 1 (by kernel_rfl) rfl rfl rfl rfl rfl (op_move rfl) ?_
        refine TZ_pure 2 (by kernel_rfl) rfl rfl rfl rfl rfl (op_indexT el29 rfl rfl hx19 rfl) ?_
        refine TZ_pure 3 (by kernel_rfl) rfl rfl rfl rfl rfl (op_load_one ag2 rfl rfl) ?_
        refine TZ_pure 4 (by kernel_rfl) rfl rfl rfl rfl rfl (op_move rfl) ?_
        refine TZ_pure 5 (by kernel_rfl) rfl rfl rfl rfl rfl (op_move rfl) ?_
        refine TZ_pure 6 (by kernel_rfl) rfl rfl rfl rfl rfl (op_indexT el29 rfl rfl hx23 rfl) ?_
        refine TZ_pure 7 (by kernel_rfl) rfl rfl rfl rfl rfl (op_load_one ag2 rfl rfl) ?_
        refine TZ_pure 8 (by kernel_rfl) rfl rfl rfl rfl rfl (op_neq rfl rfl) ?_
        refine TZ_done (by kernel_rfl) ?_
        refine T_cond rfl (fun hq => ?_) (fun hq => ?_)
        · replace hm := condT hq hm
          refine T_seq ?_
          refine T_region ?_
          refine TL_pure rfl rfl rfl rfl (op_assign rfl) ?_
          refine TL_nil ?_
          refine T_keepH [4] [] rfl rfl rfl rfl (by rw [hF]; rfl) ?_
          refine T_ret ?_
          obtain rfl := someI hm
          have hn := CtlOK_out hc0
          exact hx0 (.inr false) hn
        · replace hm := condF hq hm
          refine T_skip ?_
          refine T_region ?_
          refine TL_pure rfl rfl rfl rfl (op_move rfl) ?_
          refine TL_pure rfl rfl rfl rfl (op_addW rfl rfl) ?_
          refine TL_pure rfl rfl rfl rfl (op_assign rfl) ?_
          refine TL_nil ?_
          refine TR_keepH [0, 1, 5] [] rfl rfl rfl rfl (by rw [hF]; rfl) ?_
          obtain rfl := someI hm
          have hn := CtlOK_next hc0
          exact hn _ rfl
      · replace hm := condF hq hm
        refine T_keepH [] [] rfl rfl rfl rfl (by rw [hF]; rfl) ?_
        refine T_exit ?_
        obtain rfl := someI hm
        have hn := CtlOK_out hc0
        exact hx0 (.inl ()) hn
theorem c_laws_eqTerm (p0 : Term) (p1 : Term) (out : Bool) (hm : m_laws_eqTerm p0 p1 = some out) : ACall Try.prog 101 [.agg [.int .i64 p0.Const, .sl 1 (List.map a_i64 p0.Coeffs)], .agg [.int .i64 p1.Const, .sl 1 (List.map a_i64 p1.Coeffs)]] [] (.bool out) [] := by
  refine ACall.intro Try.func101 rfl Try.ntmps101 rfl (fun F hF => ?_)
  unfold m_laws_eqTerm at hm
  refine T_seq ?_
  refine T_region ?_
  refine TL_box 11 rfl rfl rfl rfl rfl rfl rfl ?_
  refine TL_box 12 rfl rfl rfl rfl rfl rfl rfl ?_
  refine TL_pure rfl rfl rfl rfl (op_assign rfl) ?_
  refine TL_nil ?_
  refine T_seq ?_
  refine T_seq ?_
  refine T_region ?_
  refine TL_pure rfl rfl rfl rfl (op_fieldAddr fa75_0 rfl rfl) ?_
  refine TL_pure rfl rfl rfl rfl (op_load_one ag2 rfl rfl) ?_
  refine TL_pure rfl rfl rfl rfl (op_fieldAddr fa75_0 rfl rfl) ?_
  refine TL_pure rfl rfl rfl rfl (op_load_one ag2 rfl rfl) ?_
  refine TL_pure rfl rfl rfl rfl (op_neq rfl rfl) ?_
  refine TL_nil ?_
  refine T_cond rfl (fun hq => ?_) (fun hq => ?_)
  · replace hm := condT hq hm
    refine T_seq ?_
    refine T_region ?_
    refine TL_pure rfl rfl rfl rfl (op_assign rfl) ?_
    refine TL_nil ?_
    refine T_keepH [4] [] rfl rfl rfl rfl (by rw [hF]; rfl) ?_
    refine T_ret ?_
    obtain rfl := someI hm
    refine ⟨[_], [], ⟨rfl, trivial⟩, ?_, rfl, rfl, rfl, rfl⟩
    rfl
  · replace hm := condF hq hm
    refine T_skip ?_
    refine T_seq ?_
    refine T_seq ?_
    refine T_region ?_
    refine TL_pure rfl rfl rfl rfl (op_fieldAddr fa75_1 rfl rfl) ?_
    refine TL_pure rfl rfl rfl rfl (op_load_one ag29 rfl rfl) ?_
    refine TL_pure rfl rfl rfl rfl (op_fieldAddr fa75_1 rfl rfl) ?_
    refine TL_pure rfl rfl rfl rfl (op_load_one ag29 rfl rfl) ?_
    obtain ⟨r14, hr14, hm⟩ := bindS hm
    refine TL_callF (c_laws_eqInt64S p0.Coeffs p1.Coeffs r14 hr14) Try.call77 rfl rfl rfl rfl rfl ?_
    refine TL_pure rfl rfl rfl rfl (op_not rfl) ?_
    refine TL_nil ?_
    refine T_cond rfl (fun hq => ?_) (fun hq => ?_)
    · replace hm := condT hq hm
      refine T_seq ?_
      refine T_region ?_
      refine TL_pure rfl rfl rfl rfl (op_assign rfl) ?_
      refine TL_nil ?_
      refine T_keepH [4] [] rfl rfl rfl rfl (by rw [hF]; rfl) ?_
      refine T_ret ?_
      obtain rfl := someI hm
      refine ⟨[_], [], ⟨rfl, trivial⟩, ?_, rfl, rfl, rfl, rfl⟩
      rfl
    · replace hm := condF hq hm
      refine T_skip ?_
      refine T_seq ?_
      refine T_region ?_
      refine TL_pure rfl rfl rfl rfl (op_assign rfl) ?_
      refine TL_nil ?_
      refine T_keepH [4] [] rfl rfl rfl rfl (by rw [hF]; rfl) ?_
      refine T_ret ?_
      obtain rfl := someI hm
      refine ⟨[_], [], ⟨rfl, trivial⟩, ?_, rfl, rfl, rfl, rfl⟩
      rfl
theorem c_laws_eqTermS (p0 : List Term) (p1 : List Term) (out : Bool) (hm : m_laws_eqTermS p0 p1 = some out) : ACall Try.prog 68 [.sl 2 (List.map a_Term p0), .sl 2 (List.map a_Term p1)] [] (.bool out) [] := by
  refine ACall.intro Try.func68 rfl Try.ntmps68 rfl (fun F hF => ?_)
  unfold m_laws_eqTermS at hm
  refine T_seq ?_
  refine T_region ?_
  refine TL_pure rfl rfl rfl rfl (op_assign rfl) ?_
  refine TL_nil ?_
  refine T_seq ?_
  refine T_seq ?_
  refine T_region ?_
  refine TL_pure rfl rfl rfl rfl (op_move rfl) ?_
  refine TL_pure rfl rfl rfl rfl (op_lenT Try.underlying24 rfl (List.length_map _)) ?_
  refine TL_fact (fun _ _ _ hr => RelP.slLen (i := 6) rfl hr) (fun hlen7 => ?_)
  rw [List.length_map] at hlen7
  refine TL_pure rfl rfl rfl rfl (op_move rfl) ?_
  refine TL_pure rfl rfl rfl rfl (op_lenT Try.underlying24 rfl (List.length_map _)) ?_
  refine TL_fact (fun _ _ _ hr => RelP.slLen (i := 8) rfl hr) (fun hlen9 => ?_)
  rw [List.length_map] at hlen9
  refine TL_pure rfl rfl rfl rfl (op_neq rfl rfl) ?_
  refine TL_nil ?_
  refine T_cond rfl (fun hq => ?_) (fun hq => ?_)
  · replace hm := condT hq hm
    refine T_seq ?_
    refine T_region ?_
    refine TL_pure rfl rfl rfl rfl (op_assign rfl) ?_
    refine TL_nil ?_
    refine T_keepH [4] [] rfl rfl rfl rfl (by rw [hF]; rfl) ?_
    refine T_ret ?_
    obtain rfl := someI hm
    refine ⟨[_], [], ⟨rfl, trivial⟩, ?_, rfl, rfl, rfl, rfl⟩
    rfl
  · replace hm := condF hq hm
    refine T_skip ?_
    refine T_seq ?_
    refine T_seq ?_
    refine T_region ?_
    refine TL_pure rfl rfl rfl rfl (op_assign rfl) ?_
    refine TL_nil ?_
    refine T_block ?_
    refine T_keepH [0, 1, 5] [] rfl rfl rfl rfl (by rw [hF]; rfl) ?_
    refine T_loop ?_
    obtain ⟨u0, hl0, hm⟩ := bindS hm
    refine TR_iter2 (m_laws_eqTermS_L0 p0 p1) (fun (s0 : Int) => ⟨[(0, .sl 2 (List.map a_Term p0)), (1, .sl 2 (List.map a_Term p1)), (5, .int .i64 s0)], []⟩) (fun u0 => match u0 with | .inl u0 => .exit 0 | .inr u0 => .ret) (fun u0 => match u0 with | .inl u0 => ⟨[], []⟩ | .inr u0 => ⟨[(4, .bool u0)], []⟩) (fun u0 => m_laws_eqTermS_A0 u0 = some out) hl0 hm (fun u0 hm => ?_) (fun hx0 s0 c0 hm hc0 => ?_)
    · rcases u0 with u0 | u0
      · unfold m_laws_eqTermS_A0 at hm
        refine T_seq ?_
        refine T_region ?_
        refine TL_pure rfl rfl rfl rfl (op_assign rfl) ?_
        refine TL_nil ?_
        refine T_keepH [4] [] rfl rfl rfl rfl (by rw [hF]; rfl) ?_
        refine T_ret ?_
        obtain rfl := someI hm
        refine ⟨[_], [], ⟨rfl, trivial⟩, ?_, rfl, rfl, rfl, rfl⟩
        rfl
      · unfold m_laws_eqTermS_A0 at hm
        obtain rfl := someI hm
        refine ⟨[_], [], ⟨rfl, trivial⟩, ?_, rfl, rfl, rfl, rfl⟩
        rfl
    · unfold m_laws_eqTermS_L0 at hm
      refine T_seq ?_
      refine T_seq ?_
      refine T_region ?_
      refine TL_pure rfl rfl rfl rfl (op_move rfl) ?_
      refine TL_pure rfl rfl rfl rfl (op_move rfl) ?_
      refine TL_pure rfl rfl rfl rfl (op_lenT Try.underlying24 rfl (List.length_map _)) ?_
      refine TL_pure rfl rfl rfl rfl (op_lss rfl rfl) ?_
      refine TL_nil ?_
      refine T_cond rfl (fun hq => ?_) (fun hq => ?_)
      · replace hm := condT hq hm
        refine T_skip ?_
        refine T_seq ?_
        refine T_block ?_
        refine T_seq ?_
        refine T_drawZ [] mix (by kernel_rfl) rfl ?_
        obtain ⟨x19, hx19, hm⟩ := bindS hm
        obtain ⟨x23, hx23, hm⟩ := bindS hm
        obtain ⟨r25, hr25, hm⟩ := bindS hm
        refine TZ_pure 0 (by kernel_rfl) rfl rfl rfl rfl rfl (op_move rfl) ?_
        refine TZ_pure 1 (by kernel_rfl) rfl rfl rfl rfl rfl (op_move rfl) ?_
        refine TZ_pure 2 (by kernel_rfl) rfl rfl rfl rfl rfl (op_indexT el24 rfl rfl hx19 rfl) ?_
        refine TZ_pure 3 (by kernel_rfl) rfl rfl rfl rfl rfl (op_load_agg ag75 sz75 rfl rfl rfl) ?_
        refine TZ_pure 4 (by kernel_rfl) rfl rfl rfl rfl rfl (op_move rfl) ?_
        refine TZ_pure 5 (by kernel_rfl) rfl rfl rfl rfl rfl (op_move rfl) ?_
        refine TZ_pure 6 (by kernel_rfl) rfl rfl rfl rfl rfl (op_indexT el24 rfl rfl hx23 rfl) ?_
        refine TZ_pure 7 (by kernel_rfl) rfl rfl rfl rfl rfl (op_load_agg ag75 sz75 rfl rfl rfl) ?_
        refine TZ_one 8 (by kernel_rfl) rfl ?_
        refine TL_callF (c_laws_eqTerm x19 x23 r25 hr25) Try.call101 rfl rfl rfl rfl rfl ?_
        refine TL_nil ?_
        refine TZ_pure 9 (by kernel_rfl) rfl rfl rfl rfl rfl (op_not rfl) ?_
        refine TZ_done (by kernel_rfl) ?_
        refine T_cond rfl (fun hq => ?_) (fun hq => ?_)
        · replace hm := condT hq hm
          refine T_seq ?_
          refine T_region ?_
          refine TL_pure rfl rfl rfl rfl (op_assign rfl) ?_
          refine TL_nil ?_
          refine T_keepH [4] [] rfl rfl rfl rfl (by rw [hF]; rfl) ?_
          refine T_ret ?_
          obtain rfl := someI hm
          have hn := CtlOK_out hc0
          exact hx0 (.inr false) hn
        · replace hm := condF hq hm
          refine T_skip ?_
          refine T_region ?_
          refine TL_pure rfl rfl rfl rfl (op_move rfl) ?_
          refine TL_pure rfl rfl rfl rfl (op_addW rfl rfl) ?_
          refine TL_pure rfl rfl rfl rfl (op_assign rfl) ?_
          refine TL_nil ?_
          refine TR_keepH [0, 1, 5] [] rfl rfl rfl rfl (by rw [hF]; rfl) ?_
          obtain rfl := someI hm
          have hn := CtlOK_next hc0
          exact hn _ rfl
      · replace hm := condF hq hm
        refine T_keepH [] [] rfl rfl rfl rfl (by rw [hF]; rfl) ?_
        refine T_exit ?_
        obtain rfl := someI hm
        have hn := CtlOK_out hc0
        exact hx0 (.inl ()) hn
theorem c_laws_eqStmt (p0 : Stmt) (p1 : Stmt) (out : Bool) (hm : m_laws_eqStmt p0 p1 = some out) : ACall Try.prog 58 [.agg [.int .i64 p0.Kind, .int .i64 p0.Var, .int .i64 p0.Event, .int .i64 p0.Sum.Const, .sl 1 (List.map a_i64 p0.Sum.Coeffs), .int .i64 p0.Index.Const, .sl 1 (List.map a_i64 p0.Index.Coeffs), .sl 2 (List.map a_Term p0.Facts)], .agg [.int .i64 p1.Kind, .int .i64 p1.Var, .int .i64 p1.Event, .int .i64 p1.Sum.Const, .sl 1 (List.map a_i64 p1.Sum.Coeffs), .int .i64 p1.Index.Const, .sl 1 (List.map a_i64 p1.Index.Coeffs), .sl 2 (List.map a_Term p1.Facts)]] [] (.bool out) [] := by
  refine ACall.intro Try.func58 rfl Try.ntmps58 rfl (fun F hF => ?_)
  unfold m_laws_eqStmt at hm
  refine T_seq ?_
  refine T_region ?_
  refine TL_box 11 rfl rfl rfl rfl rfl rfl rfl ?_
  refine TL_box 12 rfl rfl rfl rfl rfl rfl rfl ?_
  refine TL_pure rfl rfl rfl rfl (op_assign rfl) ?_
  refine TL_nil ?_
  refine T_seq ?_
  refine T_seq ?_
  refine T_region ?_
  refine TL_pure rfl rfl rfl rfl (op_fieldAddr fa77_0 rfl rfl) ?_
  refine TL_pure rfl rfl rfl rfl (op_load_one ag2 rfl rfl) ?_
  refine TL_pure rfl rfl rfl rfl (op_fieldAddr fa77_0 rfl rfl) ?_
  refine TL_pure rfl rfl rfl rfl (op_load_one ag2 rfl rfl) ?_
  refine TL_pure rfl rfl rfl rfl (op_neq rfl rfl) ?_
  refine TL_nil ?_
  refine T_cond rfl (fun hq => ?_) (fun hq => ?_)
  · replace hm := condT hq hm
    refine T_seq ?_
    refine T_region ?_
    refine TL_pure rfl rfl rfl rfl (op_assign rfl) ?_
    refine TL_nil ?_
    refine T_keepH [4] [] rfl rfl rfl rfl (by rw [hF]; rfl) ?_
    refine T_ret ?_
    obtain rfl := someI hm
    refine ⟨[_], [], ⟨rfl, trivial⟩, ?_, rfl, rfl, rfl, rfl⟩
    rfl
  · replace hm := condF hq hm
    refine T_skip ?_
    refine T_seq ?_
    refine T_seq ?_
    refine T_region ?_
    refine TL_pure rfl rfl rfl rfl (op_fieldAddr fa77_1 rfl rfl) ?_
    refine TL_pure rfl rfl rfl rfl (op_load_one ag2 rfl rfl) ?_
    refine TL_pure rfl rfl rfl rfl (op_fieldAddr fa77_1 rfl rfl) ?_
    refine TL_pure rfl rfl rfl rfl (op_load_one ag2 rfl rfl) ?_
    refine TL_pure rfl rfl rfl rfl (op_neq rfl rfl) ?_
    refine TL_nil ?_
    refine T_cond rfl (fun hq => ?_) (fun hq => ?_)
    · replace hm := condT hq hm
      refine T_seq ?_
      refine T_region ?_
      refine TL_pure rfl rfl rfl rfl (op_assign rfl) ?_
      refine TL_nil ?_
      refine T_keepH [4] [] rfl rfl rfl rfl (by rw [hF]; rfl) ?_
      refine T_ret ?_
      obtain rfl := someI hm
      refine ⟨[_], [], ⟨rfl, trivial⟩, ?_, rfl, rfl, rfl, rfl⟩
      rfl
    · replace hm := condF hq hm
      refine T_skip ?_
      refine T_seq ?_
      refine T_seq ?_
      refine T_region ?_
      refine TL_pure rfl rfl rfl rfl (op_fieldAddr fa77_2 rfl rfl) ?_
      refine TL_pure rfl rfl rfl rfl (op_load_one ag2 rfl rfl) ?_
      refine TL_pure rfl rfl rfl rfl (op_fieldAddr fa77_2 rfl rfl) ?_
      refine TL_pure rfl rfl rfl rfl (op_load_one ag2 rfl rfl) ?_
      refine TL_pure rfl rfl rfl rfl (op_neq rfl rfl) ?_
      refine TL_nil ?_
      refine T_cond rfl (fun hq => ?_) (fun hq => ?_)
      · replace hm := condT hq hm
        refine T_seq ?_
        refine T_region ?_
        refine TL_pure rfl rfl rfl rfl (op_assign rfl) ?_
        refine TL_nil ?_
        refine T_keepH [4] [] rfl rfl rfl rfl (by rw [hF]; rfl) ?_
        refine T_ret ?_
        obtain rfl := someI hm
        refine ⟨[_], [], ⟨rfl, trivial⟩, ?_, rfl, rfl, rfl, rfl⟩
        rfl
      · replace hm := condF hq hm
        refine T_skip ?_
        refine T_seq ?_
        refine T_seq ?_
        refine T_region ?_
        refine TL_pure rfl rfl rfl rfl (op_fieldAddr fa77_3 rfl rfl) ?_
        refine TL_pure rfl rfl rfl rfl (op_load_agg ag75 sz75 rfl rfl rfl) ?_
        refine TL_pure rfl rfl rfl rfl (op_fieldAddr fa77_3 rfl rfl) ?_
        refine TL_pure rfl rfl rfl rfl (op_load_agg ag75 sz75 rfl rfl rfl) ?_
        obtain ⟨r24, hr24, hm⟩ := bindS hm
        refine TL_callF (c_laws_eqTerm p0.Sum p1.Sum r24 hr24) Try.call101 rfl rfl rfl rfl rfl ?_
        refine TL_pure rfl rfl rfl rfl (op_not rfl) ?_
        refine TL_nil ?_
        refine T_cond rfl (fun hq => ?_) (fun hq => ?_)
        · replace hm := condT hq hm
          refine T_seq ?_
          refine T_region ?_
          refine TL_pure rfl rfl rfl rfl (op_assign rfl) ?_
          refine TL_nil ?_
          refine T_keepH [4] [] rfl rfl rfl rfl (by rw [hF]; rfl) ?_
          refine T_ret ?_
          obtain rfl := someI hm
          refine ⟨[_], [], ⟨rfl, trivial⟩, ?_, rfl, rfl, rfl, rfl⟩
          rfl
        · replace hm := condF hq hm
          refine T_skip ?_
          refine T_seq ?_
          refine T_seq ?_
          refine T_region ?_
          refine TL_pure rfl rfl rfl rfl (op_fieldAddr fa77_4 rfl rfl) ?_
          refine TL_pure rfl rfl rfl rfl (op_load_agg ag75 sz75 rfl rfl rfl) ?_
          refine TL_pure rfl rfl rfl rfl (op_fieldAddr fa77_4 rfl rfl) ?_
          refine TL_pure rfl rfl rfl rfl (op_load_agg ag75 sz75 rfl rfl rfl) ?_
          obtain ⟨r30, hr30, hm⟩ := bindS hm
          refine TL_callF (c_laws_eqTerm p0.Index p1.Index r30 hr30) Try.call101 rfl rfl rfl rfl rfl ?_
          refine TL_pure rfl rfl rfl rfl (op_not rfl) ?_
          refine TL_nil ?_
          refine T_cond rfl (fun hq => ?_) (fun hq => ?_)
          · replace hm := condT hq hm
            refine T_seq ?_
            refine T_region ?_
            refine TL_pure rfl rfl rfl rfl (op_assign rfl) ?_
            refine TL_nil ?_
            refine T_keepH [4] [] rfl rfl rfl rfl (by rw [hF]; rfl) ?_
            refine T_ret ?_
            obtain rfl := someI hm
            refine ⟨[_], [], ⟨rfl, trivial⟩, ?_, rfl, rfl, rfl, rfl⟩
            rfl
          · replace hm := condF hq hm
            refine T_skip ?_
            refine T_seq ?_
            refine T_seq ?_
            refine T_region ?_
            refine TL_pure rfl rfl rfl rfl (op_fieldAddr fa77_5 rfl rfl) ?_
            refine TL_pure rfl rfl rfl rfl (op_load_one ag24 rfl rfl) ?_
            refine TL_pure rfl rfl rfl rfl (op_fieldAddr fa77_5 rfl rfl) ?_
            refine TL_pure rfl rfl rfl rfl (op_load_one ag24 rfl rfl) ?_
            obtain ⟨r36, hr36, hm⟩ := bindS hm
            refine TL_callF (c_laws_eqTermS p0.Facts p1.Facts r36 hr36) Try.call68 rfl rfl rfl rfl rfl ?_
            refine TL_pure rfl rfl rfl rfl (op_not rfl) ?_
            refine TL_nil ?_
            refine T_cond rfl (fun hq => ?_) (fun hq => ?_)
            · replace hm := condT hq hm
              refine T_seq ?_
              refine T_region ?_
              refine TL_pure rfl rfl rfl rfl (op_assign rfl) ?_
              refine TL_nil ?_
              refine T_keepH [4] [] rfl rfl rfl rfl (by rw [hF]; rfl) ?_
              refine T_ret ?_
              obtain rfl := someI hm
              refine ⟨[_], [], ⟨rfl, trivial⟩, ?_, rfl, rfl, rfl, rfl⟩
              rfl
            · replace hm := condF hq hm
              refine T_skip ?_
              refine T_seq ?_
              refine T_region ?_
              refine TL_pure rfl rfl rfl rfl (op_assign rfl) ?_
              refine TL_nil ?_
              refine T_keepH [4] [] rfl rfl rfl rfl (by rw [hF]; rfl) ?_
              refine T_ret ?_
              obtain rfl := someI hm
              refine ⟨[_], [], ⟨rfl, trivial⟩, ?_, rfl, rfl, rfl, rfl⟩
              rfl
theorem c_laws_eqStmtS (p0 : List Stmt) (p1 : List Stmt) (out : Bool) (hm : m_laws_eqStmtS p0 p1 = some out) : ACall Try.prog 25 [.sl 8 (List.map a_Stmt p0), .sl 8 (List.map a_Stmt p1)] [] (.bool out) [] := by
  refine ACall.intro Try.func25 rfl Try.ntmps25 rfl (fun F hF => ?_)
  unfold m_laws_eqStmtS at hm
  refine T_seq ?_
  refine T_region ?_
  refine TL_pure rfl rfl rfl rfl (op_assign rfl) ?_
  refine TL_nil ?_
  refine T_seq ?_
  refine T_seq ?_
  refine T_region ?_
  refine TL_pure rfl rfl rfl rfl (op_move rfl) ?_
  refine TL_pure rfl rfl rfl rfl (op_lenT Try.underlying25 rfl (List.length_map _)) ?_
  refine TL_fact (fun _ _ _ hr => RelP.slLen (i := 6) rfl hr) (fun hlen7 => ?_)
  rw [List.length_map] at hlen7
  refine TL_pure rfl rfl rfl rfl (op_move rfl) ?_
  refine TL_pure rfl rfl rfl rfl (op_lenT Try.underlying25 rfl (List.length_map _)) ?_
  refine TL_fact (fun _ _ _ hr => RelP.slLen (i := 8) rfl hr) (fun hlen9 => ?_)
  rw [List.length_map] at hlen9
  refine TL_pure rfl rfl rfl rfl (op_neq rfl rfl) ?_
  refine TL_nil ?_
  refine T_cond rfl (fun hq => ?_) (fun hq => ?_)
  · replace hm := condT hq hm
    refine T_seq ?_
    refine T_region ?_
    refine TL_pure rfl rfl rfl rfl (op_assign rfl) ?_
    refine TL_nil ?_
    refine T_keepH [4] [] rfl rfl rfl rfl (by rw [hF]; rfl) ?_
    refine T_ret ?_
    obtain rfl := someI hm
    refine ⟨[_], [], ⟨rfl, trivial⟩, ?_, rfl, rfl, rfl, rfl⟩
    rfl
  · replace hm := condF hq hm
    refine T_skip ?_
    refine T_seq ?_
    refine T_seq ?_
    refine T_region ?_
    refine TL_pure rfl rfl rfl rfl (op_assign rfl) ?_
    refine TL_nil ?_
    refine T_block ?_
    refine T_keepH [0, 1, 5] [] rfl rfl rfl rfl (by rw [hF]; rfl) ?_
    refine T_loop ?_
    obtain ⟨u0, hl0, hm⟩ := bindS hm
    refine TR_iter2 (m_laws_eqStmtS_L0 p0 p1) (fun (s0 : Int) => ⟨[(0, .sl 8 (List.map a_Stmt p0)), (1, .sl 8 (List.map a_Stmt p1)), (5, .int .i64 s0)], []⟩) (fun u0 => match u0 with | .inl u0 => .exit 0 | .inr u0 => .ret) (fun u0 => match u0 with | .inl u0 => ⟨[], []⟩ | .inr u0 => ⟨[(4, .bool u0)], []⟩) (fun u0 => m_laws_eqStmtS_A0 u0 = some out) hl0 hm (fun u0 hm => ?_) (fun hx0 s0 c0 hm hc0 => ?_)
    · rcases u0 with u0 | u0
      · unfold m_laws_eqStmtS_A0 at hm
        refine T_seq ?_
        refine T_region ?_
        refine TL_pure rfl rfl rfl rfl (op_assign rfl) ?_
        refine TL_nil ?_
        refine T_keepH [4] [] rfl rfl rfl rfl (by rw [hF]; rfl) ?_
        refine T_ret ?_
        obtain rfl := someI hm
        refine ⟨[_], [], ⟨rfl, trivial⟩, ?_, rfl, rfl, rfl, rfl⟩
        rfl
      · unfold m_laws_eqStmtS_A0 at hm
        obtain rfl := someI hm
        refine ⟨[_], [], ⟨rfl, trivial⟩, ?_, rfl, rfl, rfl, rfl⟩
        rfl
    · unfold m_laws_eqStmtS_L0 at hm
      refine T_seq ?_
      refine T_seq ?_
      refine T_region ?_
      refine TL_pure rfl rfl rfl rfl (op_move rfl) ?_
      refine TL_pure rfl rfl rfl rfl (op_move rfl) ?_
      refine TL_pure rfl rfl rfl rfl (op_lenT Try.underlying25 rfl (List.length_map _)) ?_
      refine TL_pure rfl rfl rfl rfl (op_lss rfl rfl) ?_
      refine TL_nil ?_
      refine T_cond rfl (fun hq => ?_) (fun hq => ?_)
      · replace hm := condT hq hm
        refine T_skip ?_
        refine T_seq ?_
        refine T_block ?_
        refine T_seq ?_
        refine T_drawZ [] mix (by kernel_rfl) rfl ?_
        obtain ⟨x19, hx19, hm⟩ := bindS hm
        obtain ⟨x23, hx23, hm⟩ := bindS hm
        obtain ⟨r25, hr25, hm⟩ := bindS hm
        refine TZ_pure 0 (by kernel_rfl) rfl rfl rfl rfl rfl (op_move rfl) ?_
        refine TZ_pure 1 (by kernel_rfl) rfl rfl rfl rfl rfl (op_move rfl) ?_
        refine TZ_pure 2 (by kernel_rfl) rfl rfl rfl rfl rfl (op_indexT el25 rfl rfl hx19 rfl) ?_
        refine TZ_pure 3 (by kernel_rfl) rfl rfl rfl rfl rfl (op_load_agg ag77 sz77 rfl rfl rfl) ?_
        refine TZ_pure 4 (by kernel_rfl) rfl rfl rfl rfl rfl (op_move rfl) ?_
        refine TZ_pure 5 (by kernel_rfl) rfl rfl rfl rfl rfl (op_move rfl) ?_
        refine TZ_pure 6 (by kernel_rfl) rfl rfl rfl rfl rfl (op_indexT el25 rfl rfl hx23 rfl) ?_
        refine TZ_pure 7 (by kernel_rfl) rfl rfl rfl rfl rfl (op_load_agg ag77 sz77 rfl rfl rfl) ?_
        refine TZ_one 8 (by kernel_rfl) rfl ?_
        refine TL_callF (c_laws_eqStmt x19 x23 r25 hr25) Try.call58 rfl rfl rfl rfl rfl ?_
        refine TL_nil ?_
        refine TZ_pure 9 (by kernel_rfl) rfl rfl rfl rfl rfl (op_not rfl) ?_
        refine TZ_done (by kernel_rfl) ?_
        refine T_cond rfl (fun hq => ?_) (fun hq => ?_)
        · replace hm := condT hq hm
          refine T_seq ?_
          refine T_region ?_
          refine TL_pure rfl rfl rfl rfl (op_assign rfl) ?_
          refine TL_nil ?_
          refine T_keepH [4] [] rfl rfl rfl rfl (by rw [hF]; rfl) ?_
          refine T_ret ?_
          obtain rfl := someI hm
          have hn := CtlOK_out hc0
          exact hx0 (.inr false) hn
        · replace hm := condF hq hm
          refine T_skip ?_
          refine T_region ?_
          refine TL_pure rfl rfl rfl rfl (op_move rfl) ?_
          refine TL_pure rfl rfl rfl rfl (op_addW rfl rfl) ?_
          refine TL_pure rfl rfl rfl rfl (op_assign rfl) ?_
          refine TL_nil ?_
          refine TR_keepH [0, 1, 5] [] rfl rfl rfl rfl (by rw [hF]; rfl) ?_
          obtain rfl := someI hm
          have hn := CtlOK_next hc0
          exact hn _ rfl
      · replace hm := condF hq hm
        refine T_keepH [] [] rfl rfl rfl rfl (by rw [hF]; rfl) ?_
        refine T_exit ?_
        obtain rfl := someI hm
        have hn := CtlOK_out hc0
        exact hx0 (.inl ()) hn
theorem c_laws_markInt64S (p0 : List Int) (p1 : Int) (out : Int × (List Int)) (hm : m_laws_markInt64S p0 p1 = some out) (E0 : TypeId) : ACall Try.prog 59 [.ow 0, .int .i64 p1] [(0, .arr ⟨true, true⟩ 1 E0 (List.map a_i64 p0))] (.int .i64 out.1) [(0, .arr ⟨true, true⟩ 1 E0 (List.map a_i64 out.2))] := by
  refine ACall.intro Try.func59 rfl Try.ntmps59 rfl (fun F hF => ?_)
  unfold m_laws_markInt64S at hm
  refine T_seq ?_
  refine T_region ?_
  refine TL_pure rfl rfl rfl rfl (op_assign rfl) ?_
  refine TL_nil ?_
  refine T_seq ?_
  refine T_seq ?_
  refine T_region ?_
  refine TL_pure rfl rfl rfl rfl (op_assign rfl) ?_
  refine TL_nil ?_
  refine T_block ?_
  refine T_keepH [0, 1, 5] [0] rfl rfl rfl rfl (by rw [hF]; rfl) ?_
  refine T_loop ?_
  obtain ⟨u0, hl0, hm⟩ := bindS hm
  refine TR_iter2 (m_laws_markInt64S_L0) (fun (s0 : (List Int) × Int × Int) => ⟨[(0, .ow 0), (1, .int .i64 s0.2.1), (5, .int .i64 s0.2.2)], [(0, .arr ⟨true, true⟩ 1 E0 (List.map a_i64 s0.1))]⟩) (fun u0 => .exit 0) (fun u0 => ⟨[(1, .int .i64 u0.1)], [(0, .arr ⟨true, true⟩ 1 E0 (List.map a_i64 u0.2))]⟩) (fun u0 => m_laws_markInt64S_A0 u0 = some out) hl0 hm (fun u0 hm => ?_) (fun hx0 s0 c0 hm hc0 => ?_)
  · unfold m_laws_markInt64S_A0 at hm
    refine T_seq ?_
    refine T_region ?_
    refine TL_pure rfl rfl rfl rfl (op_move rfl) ?_
    refine TL_pure rfl rfl rfl rfl (op_assign rfl) ?_
    refine TL_nil ?_
    refine T_keepH [4] [0] rfl rfl rfl rfl (by rw [hF]; rfl) ?_
    refine T_ret ?_
    obtain rfl := someI hm
    refine ⟨[_], [0], ⟨rfl, trivial⟩, ?_, rfl, rfl, rfl, rfl⟩
    rfl
  · unfold m_laws_markInt64S_L0 at hm
    refine T_seq ?_
    refine T_seq ?_
    refine T_region ?_
    refine TL_pure rfl rfl rfl rfl (op_move rfl) ?_
    refine TL_pure rfl rfl rfl rfl (op_move rfl) ?_
    refine TL_pure rfl rfl rfl rfl (op_lenO Try.underlying29 rfl rfl (List.length_map _)) ?_
    refine TL_fact (fun _ _ _ hr => RelP.owLen (id := 0) rfl hr) (fun hlen8 => ?_)
    rw [List.length_map] at hlen8
    refine TL_pure rfl rfl rfl rfl (op_lss rfl rfl) ?_
    refine TL_nil ?_
    refine T_cond rfl (fun hq => ?_) (fun hq => ?_)
    · replace hm := condT hq hm
      refine T_skip ?_
      refine T_seq ?_
      refine T_block ?_
      refine T_seq ?_
      refine T_region ?_
      refine TL_pure rfl rfl rfl rfl (op_move rfl) ?_
      refine TL_pure rfl rfl rfl rfl (op_move rfl) ?_
      refine TL_pure rfl rfl rfl rfl (op_move rfl) ?_
      obtain ⟨x15, hx15, hm⟩ := bindS hm
      refine TL_pure rfl rfl rfl rfl (op_indexO el29 rfl rfl rfl hx15) ?_
      refine TL_storeFT sz2 rfl rfl ((getI_spec hx15).2) (v' := s0.2.1) rfl rfl rfl rfl rfl rfl rfl rfl rfl ?_
      refine TL_nil ?_
      refine T_region ?_
      refine TL_pure rfl rfl rfl rfl (op_move rfl) ?_
      refine TL_pure rfl rfl rfl rfl (op_addW rfl rfl) ?_
      refine TL_pure rfl rfl rfl rfl (op_assign rfl) ?_
      refine TL_nil ?_
      refine T_region ?_
      refine TL_pure rfl rfl rfl rfl (op_move rfl) ?_
      refine TL_pure rfl rfl rfl rfl (op_addW rfl rfl) ?_
      refine TL_pure rfl rfl rfl rfl (op_assign rfl) ?_
      refine TL_nil ?_
      refine TR_keepH [0, 1, 5] [0] rfl rfl rfl rfl (by rw [hF]; rfl) ?_
      obtain rfl := someI hm
      have hn := CtlOK_next hc0
      exact hn _ rfl
    · replace hm := condF hq hm
      refine T_keepH [1] [0] rfl rfl rfl rfl (by rw [hF]; rfl) ?_
      refine T_exit ?_
      obtain rfl := someI hm
      have hn := CtlOK_out hc0
      exact hx0 (s0.2.1, s0.1) hn
theorem c_laws_markTermS (p0 : List Term) (p1 : Int) (out : Int × (List Term)) (hm : m_laws_markTermS p0 p1 = some out) (E0 : TypeId) : ACall Try.prog 60 [.ow 0, .int .i64 p1] [(0, .arr ⟨true, true⟩ 2 E0 (List.map a_Term p0))] (.int .i64 out.1) [(0, .arr ⟨true, true⟩ 2 E0 (List.map a_Term out.2))] := by
  refine ACall.intro Try.func60 rfl Try.ntmps60 rfl (fun F hF => ?_)
  unfold m_laws_markTermS at hm
  refine T_seq ?_
  refine T_region ?_
  refine TL_pure rfl rfl rfl rfl (op_assign rfl) ?_
  refine TL_nil ?_
  refine T_seq ?_
  refine T_seq ?_
  refine T_region ?_
  refine TL_pure rfl rfl rfl rfl (op_assign rfl) ?_
  refine TL_nil ?_
  refine T_block ?_
  refine T_keepH [0, 1, 5] [0] rfl rfl rfl rfl (by rw [hF]; rfl) ?_
  refine T_loop ?_
  obtain ⟨u0, hl0, hm⟩ := bindS hm
  refine TR_iter2 (m_laws_markTermS_L0) (fun (s0 : (List Term) × Int × Int) => ⟨[(0, .ow 0), (1, .int .i64 s0.2.1), (5, .int .i64 s0.2.2)], [(0, .arr ⟨true, true⟩ 2 E0 (List.map a_Term s0.1))]⟩) (fun u0 => .exit 0) (fun u0 => ⟨[(1, .int .i64 u0.1)], [(0, .arr ⟨true, true⟩ 2 E0 (List.map a_Term u0.2))]⟩) (fun u0 => m_laws_markTermS_A0 u0 = some out) hl0 hm (fun u0 hm => ?_) (fun hx0 s0 c0 hm hc0 => ?_)
  · unfold m_laws_markTermS_A0 at hm
    refine T_seq ?_
    refine T_region ?_
    refine TL_pure rfl rfl rfl rfl (op_move rfl) ?_
    refine TL_pure rfl rfl rfl rfl (op_assign rfl) ?_
    refine TL_nil ?_
    refine T_keepH [4] [0] rfl rfl rfl rfl (by rw [hF]; rfl) ?_
    refine T_ret ?_
    obtain rfl := someI hm
    refine ⟨[_], [0], ⟨rfl, trivial⟩, ?_, rfl, rfl, rfl, rfl⟩
    rfl
  · unfold m_laws_markTermS_L0 at hm
    refine T_seq ?_
    refine T_seq ?_
    refine T_region ?_
    refine TL_pure rfl rfl rfl rfl (op_move rfl) ?_
    refine TL_pure rfl rfl rfl rfl (op_move rfl) ?_
    refine TL_pure rfl rfl rfl rfl (op_lenO Try.underlying24 rfl rfl (List.length_map _)) ?_
    refine TL_fact (fun _ _ _ hr => RelP.owLen (id := 0) rfl hr) (fun hlen8 => ?_)
    rw [List.length_map] at hlen8
    refine TL_pure rfl rfl rfl rfl (op_lss rfl rfl) ?_
    refine TL_nil ?_
    refine T_cond rfl (fun hq => ?_) (fun hq => ?_)
    · replace hm := condT hq hm
      refine T_skip ?_
      refine T_seq ?_
      refine T_block ?_
      refine T_seq ?_
      refine T_region ?_
      refine TL_pure rfl rfl rfl rfl (op_move rfl) ?_
      refine TL_pure rfl rfl rfl rfl (op_move rfl) ?_
      refine TL_pure rfl rfl rfl rfl (op_move rfl) ?_
      obtain ⟨x15, hx15, hm⟩ := bindS hm
      refine TL_pure rfl rfl rfl rfl (op_indexO el24 rfl rfl rfl hx15) ?_
      refine TL_pure rfl rfl rfl rfl (op_fieldAddr fa75_0 rfl rfl) ?_
      refine TL_storeFT sz2 rfl rfl ((getI_spec hx15).2) (v' := (Term.mk s0.2.1 x15.Coeffs)) rfl rfl rfl rfl rfl rfl rfl rfl rfl ?_
      refine TL_nil ?_
      refine T_seq ?_
      refine T_region ?_
      refine TL_pure rfl rfl rfl rfl (op_move rfl) ?_
      refine TL_pure rfl rfl rfl rfl (op_addW rfl rfl) ?_
      refine TL_pure rfl rfl rfl rfl (op_assign rfl) ?_
      refine TL_nil ?_
      refine T_region ?_
      refine TL_pure rfl rfl rfl rfl (op_move rfl) ?_
      refine TL_pure rfl rfl rfl rfl (op_move rfl) ?_
      obtain ⟨x21, hx21, hm⟩ := bindS hm
      refine TL_pure rfl rfl rfl rfl (op_indexO el24 rfl rfl rfl hx21) ?_
      refine TL_pure rfl rfl rfl rfl (op_fieldAddr fa75_1 rfl rfl) ?_
      refine TL_pure rfl rfl rfl rfl (op_loadD1 ag29 rfl rfl ((getI_spec hx21).2) rfl rfl rfl rfl) ?_
      refine TL_pure rfl rfl rfl rfl (op_move rfl) ?_
      obtain ⟨r25, hr25, hm⟩ := bindS hm
      refine TL_callSub (id := 0) (i := (s0.2.2).toNat) (j := 1) (e' := a_Term (Term.mk x21.Const r25.2)) (es' := List.map a_Term ((s0.1.set ((s0.2.2).toNat) (Term.mk s0.2.1 x15.Coeffs)).set ((s0.2.2).toNat) (Term.mk x21.Const r25.2))) (fun E' => c_laws_markInt64S x21.Coeffs (w64 (s0.2.1 + (1 : Int))) r25 hr25 E') Try.call59 rfl rfl (get_map ((getI_spec hx21).2)) rfl rfl rfl rfl ⟨.inl ⟨rfl, rfl⟩, .inr ⟨rfl, rfl⟩, trivial⟩ rfl rfl rfl (List.map_set) rfl rfl rfl ?_
      refine TL_pure rfl rfl rfl rfl (op_assign rfl) ?_
      refine TL_nil ?_
      refine T_region ?_
      refine TL_pure rfl rfl rfl rfl (op_move rfl) ?_
      refine TL_pure rfl rfl rfl rfl (op_addW rfl rfl) ?_
      refine TL_pure rfl rfl rfl rfl (op_assign rfl) ?_
      refine TL_nil ?_
      refine TR_keepH [0, 1, 5] [0] rfl rfl rfl rfl (by rw [hF]; rfl) ?_
      obtain rfl := someI hm
      have hn := CtlOK_next hc0
      exact hn _ rfl
    · replace hm := condF hq hm
      refine T_keepH [1] [0] rfl rfl rfl rfl (by rw [hF]; rfl) ?_
      refine T_exit ?_
      obtain rfl := someI hm
      have hn := CtlOK_out hc0
      exact hx0 (s0.2.1, s0.1) hn
theorem c_laws_markStmtS (p0 : List Stmt) (p1 : Int) (out : Int × (List Stmt)) (hm : m_laws_markStmtS p0 p1 = some out) (E0 : TypeId) : ACall Try.prog 26 [.ow 0, .int .i64 p1] [(0, .arr ⟨true, true⟩ 8 E0 (List.map a_Stmt p0))] (.int .i64 out.1) [(0, .arr ⟨true, true⟩ 8 E0 (List.map a_Stmt out.2))] := by
  refine ACall.intro Try.func26 rfl Try.ntmps26 rfl (fun F hF => ?_)
  unfold m_laws_markStmtS at hm
  refine T_seq ?_
  refine T_region ?_
  refine TL_pure rfl rfl rfl rfl (op_assign rfl) ?_
  refine TL_nil ?_
  refine T_seq ?_
  refine T_seq ?_
  refine T_region ?_
  refine TL_pure rfl rfl rfl rfl (op_assign rfl) ?_
  refine TL_nil ?_
  refine T_block ?_
  refine T_keepH [0, 1, 5] [0] rfl rfl rfl rfl (by rw [hF]; rfl) ?_
  refine T_loop ?_
  obtain ⟨u0, hl0, hm⟩ := bindS hm
  refine TR_iter2 (m_laws_markStmtS_L0) (fun (s0 : (List Stmt) × Int × Int) => ⟨[(0, .ow 0), (1, .int .i64 s0.2.1), (5, .int .i64 s0.2.2)], [(0, .arr ⟨true, true⟩ 8 E0 (List.map a_Stmt s0.1))]⟩) (fun u0 => .exit 0) (fun u0 => ⟨[(1, .int .i64 u0.1)], [(0, .arr ⟨true, true⟩ 8 E0 (List.map a_Stmt u0.2))]⟩) (fun u0 => m_laws_markStmtS_A0 u0 = some out) hl0 hm (fun u0 hm => ?_) (fun hx0 s0 c0 hm hc0 => ?_)
  · unfold m_laws_markStmtS_A0 at hm
    refine T_seq ?_
    refine T_region ?_
    refine TL_pure rfl rfl rfl rfl (op_move rfl) ?_
    refine TL_pure rfl rfl rfl rfl (op_assign rfl) ?_
    refine TL_nil ?_
    refine T_keepH [4] [0] rfl rfl rfl rfl (by rw [hF]; rfl) ?_
    refine T_ret ?_
    obtain rfl := someI hm
    refine ⟨[_], [0], ⟨rfl, trivial⟩, ?_, rfl, rfl, rfl, rfl⟩
    rfl
  · unfold m_laws_markStmtS_L0 at hm
    refine T_seq ?_
    refine T_seq ?_
    refine T_region ?_
    refine TL_pure rfl rfl rfl rfl (op_move rfl) ?_
    refine TL_pure rfl rfl rfl rfl (op_move rfl) ?_
    refine TL_pure rfl rfl rfl rfl (op_lenO Try.underlying25 rfl rfl (List.length_map _)) ?_
    refine TL_fact (fun _ _ _ hr => RelP.owLen (id := 0) rfl hr) (fun hlen8 => ?_)
    rw [List.length_map] at hlen8
    refine TL_pure rfl rfl rfl rfl (op_lss rfl rfl) ?_
    refine TL_nil ?_
    refine T_cond rfl (fun hq => ?_) (fun hq => ?_)
    · replace hm := condT hq hm
      refine T_skip ?_
      refine T_seq ?_
      refine T_block ?_
      refine T_seq ?_
      refine T_region ?_
      refine TL_pure rfl rfl rfl rfl (op_move rfl) ?_
      refine TL_pure rfl rfl rfl rfl (op_move rfl) ?_
      refine TL_pure rfl rfl rfl rfl (op_move rfl) ?_
      obtain ⟨x15, hx15, hm⟩ := bindS hm
      refine TL_pure rfl rfl rfl rfl (op_indexO el25 rfl rfl rfl hx15) ?_
      refine TL_pure rfl rfl rfl rfl (op_fieldAddr fa77_0 rfl rfl) ?_
      refine TL_storeFT sz2 rfl rfl ((getI_spec hx15).2) (v' := (Stmt.mk s0.2.1 x15.Var x15.Event x15.Sum x15.Index x15.Facts)) rfl rfl rfl rfl rfl rfl rfl rfl rfl ?_
      refine TL_nil ?_
      refine T_seq ?_
      refine T_region ?_
      refine TL_pure rfl rfl rfl rfl (op_move rfl) ?_
      refine TL_pure rfl rfl rfl rfl (op_addW rfl rfl) ?_
      refine TL_pure rfl rfl rfl rfl (op_assign rfl) ?_
      refine TL_nil ?_
      refine T_seq ?_
      refine T_region ?_
      refine TL_pure rfl rfl rfl rfl (op_move rfl) ?_
      refine TL_pure rfl rfl rfl rfl (op_move rfl) ?_
      refine TL_pure rfl rfl rfl rfl (op_move rfl) ?_
      obtain ⟨x22, hx22, hm⟩ := bindS hm
      refine TL_pure rfl rfl rfl rfl (op_indexO el25 rfl rfl rfl hx22) ?_
      refine TL_pure rfl rfl rfl rfl (op_fieldAddr fa77_1 rfl rfl) ?_
      refine TL_storeFT sz2 rfl rfl ((getI_spec hx22).2) (v' := (Stmt.mk x22.Kind (w64 (s0.2.1 + (1 : Int))) x22.Event x22.Sum x22.Index x22.Facts)) rfl rfl rfl rfl rfl rfl rfl rfl rfl ?_
      refine TL_nil ?_
      refine T_seq ?_
      refine T_region ?_
      refine TL_pure rfl rfl rfl rfl (op_move rfl) ?_
      refine TL_pure rfl rfl rfl rfl (op_addW rfl rfl) ?_
      refine TL_pure rfl rfl rfl rfl (op_assign rfl) ?_
      refine TL_nil ?_
      refine T_seq ?_
      refine T_region ?_
      refine TL_pure rfl rfl rfl rfl (op_move rfl) ?_
      refine TL_pure rfl rfl rfl rfl (op_move rfl) ?_
      refine TL_pure rfl rfl rfl rfl (op_move rfl) ?_
      obtain ⟨x29, hx29, hm⟩ := bindS hm
      refine TL_pure rfl rfl rfl rfl (op_indexO el25 rfl rfl rfl hx29) ?_
      refine TL_pure rfl rfl rfl rfl (op_fieldAddr fa77_2 rfl rfl) ?_
      refine TL_storeFT sz2 rfl rfl ((getI_spec hx29).2) (v' := (Stmt.mk x29.Kind x29.Var (w64 ((w64 (s0.2.1 + (1 : Int))) + (1 : Int))) x29.Sum x29.Index x29.Facts)) rfl rfl rfl rfl rfl rfl rfl rfl rfl ?_
      refine TL_nil ?_
      refine T_seq ?_
      refine T_region ?_
      refine TL_pure rfl rfl rfl rfl (op_move rfl) ?_
      refine TL_pure rfl rfl rfl rfl (op_addW rfl rfl) ?_
      refine TL_pure rfl rfl rfl rfl (op_assign rfl) ?_
      refine TL_nil ?_
      refine T_seq ?_
      refine T_region ?_
      refine TL_pure rfl rfl rfl rfl (op_move rfl) ?_
      refine TL_pure rfl rfl rfl rfl (op_move rfl) ?_
      refine TL_pure rfl rfl rfl rfl (op_move rfl) ?_
      obtain ⟨x36, hx36, hm⟩ := bindS hm
      refine TL_pure rfl rfl rfl rfl (op_indexO el25 rfl rfl rfl hx36) ?_
      refine TL_pure rfl rfl rfl rfl (op_fieldAddr fa77_3 rfl rfl) ?_
      refine TL_pure rfl rfl rfl rfl (op_fieldAddr fa75_0 rfl rfl) ?_
      refine TL_storeFT sz2 rfl rfl ((getI_spec hx36).2) (v' := (Stmt.mk x36.Kind x36.Var x36.Event (Term.mk (w64 ((w64 ((w64 (s0.2.1 + (1 : Int))) + (1 : Int))) + (1 : Int))) x36.Sum.Coeffs) x36.Index x36.Facts)) rfl rfl rfl rfl rfl rfl rfl rfl rfl ?_
      refine TL_nil ?_
      refine T_seq ?_
      refine T_region ?_
      refine TL_pure rfl rfl rfl rfl (op_move rfl) ?_
      refine TL_pure rfl rfl rfl rfl (op_addW rfl rfl) ?_
      refine TL_pure rfl rfl rfl rfl (op_assign rfl) ?_
      refine TL_nil ?_
      refine T_seq ?_
      refine T_region ?_
      refine TL_pure rfl rfl rfl rfl (op_move rfl) ?_
      refine TL_pure rfl rfl rfl rfl (op_move rfl) ?_
      obtain ⟨x43, hx43, hm⟩ := bindS hm
      refine TL_pure rfl rfl rfl rfl (op_indexO el25 rfl rfl rfl hx43) ?_
      refine TL_pure rfl rfl rfl rfl (op_fieldAddr fa77_3 rfl rfl) ?_
      refine TL_pure rfl rfl rfl rfl (op_fieldAddr fa75_1 rfl rfl) ?_
      refine TL_pure rfl rfl rfl rfl (op_loadD1 ag29 rfl rfl ((getI_spec hx43).2) rfl rfl rfl rfl) ?_
      refine TL_pure rfl rfl rfl rfl (op_move rfl) ?_
      obtain ⟨r48, hr48, hm⟩ := bindS hm
      refine TL_callSub (id := 0) (i := (s0.2.2).toNat) (j := 4) (e' := a_Stmt (Stmt.mk x43.Kind x43.Var x43.Event (Term.mk x43.Sum.Const r48.2) x43.Index x43.Facts)) (es' := List.map a_Stmt (((((s0.1.set ((s0.2.2).toNat) (Stmt.mk s0.2.1 x15.Var x15.Event x15.Sum x15.Index x15.Facts)).set ((s0.2.2).toNat) (Stmt.mk x22.Kind (w64 (s0.2.1 + (1 : Int))) x22.Event x22.Sum x22.Index x22.Facts)).set ((s0.2.2).toNat) (Stmt.mk x29.Kind x29.Var (w64 ((w64 (s0.2.1 + (1 : Int))) + (1 : Int))) x29.Sum x29.Index x29.Facts)).set ((s0.2.2).toNat) (Stmt.mk x36.Kind x36.Var x36.Event (Term.mk (w64 ((w64 ((w64 (s0.2.1 + (1 : Int))) + (1 : Int))) + (1 : Int))) x36.Sum.Coeffs) x36.Index x36.Facts)).set ((s0.2.2).toNat) (Stmt.mk x43.Kind x43.Var x43.Event (Term.mk x43.Sum.Const r48.2) x43.Index x43.Facts))) (fun E' => c_laws_markInt64S x43.Sum.Coeffs (w64 ((w64 ((w64 ((w64 (s0.2.1 + (1 : Int))) + (1 : Int))) + (1 : Int))) + (1 : Int))) r48 hr48 E') Try.call59 rfl rfl (get_map ((getI_spec hx43).2)) rfl rfl rfl rfl ⟨.inl ⟨rfl, rfl⟩, .inr ⟨rfl, rfl⟩, trivial⟩ rfl rfl rfl (List.map_set) rfl rfl rfl ?_
      refine TL_pure rfl rfl rfl rfl (op_assign rfl) ?_
      refine TL_nil ?_
      refine T_seq ?_
      refine T_region ?_
      refine TL_pure rfl rfl rfl rfl (op_move rfl) ?_
      refine TL_pure rfl rfl rfl rfl (op_move rfl) ?_
      refine TL_pure rfl rfl rfl rfl (op_move rfl) ?_
      obtain ⟨x52, hx52, hm⟩ := bindS hm
      refine TL_pure rfl rfl rfl rfl (op_indexO el25 rfl rfl rfl hx52) ?_
      refine TL_pure rfl rfl rfl rfl (op_fieldAddr fa77_4 rfl rfl) ?_
      refine TL_pure rfl rfl rfl rfl (op_fieldAddr fa75_0 rfl rfl) ?_
      refine TL_storeFT sz2 rfl rfl ((getI_spec hx52).2) (v' := (Stmt.mk x52.Kind x52.Var x52.Event x52.Sum (Term.mk r48.1 x52.Index.Coeffs) x52.Facts)) rfl rfl rfl rfl rfl rfl rfl rfl rfl ?_
      refine TL_nil ?_
      refine T_seq ?_
      refine T_region ?_
      refine TL_pure rfl rfl rfl rfl (op_move rfl) ?_
      refine TL_pure rfl rfl rfl rfl (op_addW rfl rfl) ?_
      refine TL_pure rfl rfl rfl rfl (op_assign rfl) ?_
      refine TL_nil ?_
      refine T_seq ?_
      refine T_region ?_
      refine TL_pure rfl rfl rfl rfl (op_move rfl) ?_
      refine TL_pure rfl rfl rfl rfl (op_move rfl) ?_
      obtain ⟨x59, hx59, hm⟩ := bindS hm
      refine TL_pure rfl rfl rfl rfl (op_indexO el25 rfl rfl rfl hx59) ?_
      refine TL_pure rfl rfl rfl rfl (op_fieldAddr fa77_4 rfl rfl) ?_
      refine TL_pure rfl rfl rfl rfl (op_fieldAddr fa75_1 rfl rfl) ?_
      refine TL_pure rfl rfl rfl rfl (op_loadD1 ag29 rfl rfl ((getI_spec hx59).2) rfl rfl rfl rfl) ?_
      refine TL_pure rfl rfl rfl rfl (op_move rfl) ?_
      obtain ⟨r64, hr64, hm⟩ := bindS hm
      refine TL_callSub (id := 0) (i := (s0.2.2).toNat) (j := 6) (e' := a_Stmt (Stmt.mk x59.Kind x59.Var x59.Event x59.Sum (Term.mk x59.Index.Const r64.2) x59.Facts)) (es' := List.map a_Stmt (((((((s0.1.set ((s0.2.2).toNat) (Stmt.mk s0.2.1 x15.Var x15.Event x15.Sum x15.Index x15.Facts)).set ((s0.2.2).toNat) (Stmt.mk x22.Kind (w64 (s0.2.1 + (1 : Int))) x22.Event x22.Sum x22.Index x22.Facts)).set ((s0.2.2).toNat) (Stmt.mk x29.Kind x29.Var (w64 ((w64 (s0.2.1 + (1 : Int))) + (1 : Int))) x29.Sum x29.Index x29.Facts)).set ((s0.2.2).toNat) (Stmt.mk x36.Kind x36.Var x36.Event (Term.mk (w64 ((w64 ((w64 (s0.2.1 + (1 : Int))) + (1 : Int))) + (1 : Int))) x36.Sum.Coeffs) x36.Index x36.Facts)).set ((s0.2.2).toNat) (Stmt.mk x43.Kind x43.Var x43.Event (Term.mk x43.Sum.Const r48.2) x43.Index x43.Facts)).set ((s0.2.2).toNat) (Stmt.mk x52.Kind x52.Var x52.Event x52.Sum (Term.mk r48.1 x52.Index.Coeffs) x52.Facts)).set ((s0.2.2).toNat) (Stmt.mk x59.Kind x59.Var x59.Event x59.Sum (Term.mk x59.Index.Const r64.2) x59.Facts))) (fun E' => c_laws_markInt64S x59.Index.Coeffs (w64 (r48.1 + (1 : Int))) r64 hr64 E') Try.call59 rfl rfl (get_map ((getI_spec hx59).2)) rfl rfl rfl rfl ⟨.inl ⟨rfl, rfl⟩, .inr ⟨rfl, rfl⟩, trivial⟩ rfl rfl rfl (List.map_set) rfl rfl rfl ?_
      refine TL_pure rfl rfl rfl rfl (op_assign rfl) ?_
      refine TL_nil ?_
      refine T_region ?_
      refine TL_pure rfl rfl rfl rfl (op_move rfl) ?_
      refine TL_pure rfl rfl rfl rfl (op_move rfl) ?_
      obtain ⟨x67, hx67, hm⟩ := bindS hm
      refine TL_pure rfl rfl rfl rfl (op_indexO el25 rfl rfl rfl hx67) ?_
      refine TL_pure rfl rfl rfl rfl (op_fieldAddr fa77_5 rfl rfl) ?_
      refine TL_pure rfl rfl rfl rfl (op_loadD1 ag24 rfl rfl ((getI_spec hx67).2) rfl rfl rfl rfl) ?_
      refine TL_pure rfl rfl rfl rfl (op_move rfl) ?_
      obtain ⟨r71, hr71, hm⟩ := bindS hm
      refine TL_callSub (id := 0) (i := (s0.2.2).toNat) (j := 7) (e' := a_Stmt (Stmt.mk x67.Kind x67.Var x67.Event x67.Sum x67.Index r71.2)) (es' := List.map a_Stmt ((((((((s0.1.set ((s0.2.2).toNat) (Stmt.mk s0.2.1 x15.Var x15.Event x15.Sum x15.Index x15.Facts)).set ((s0.2.2).toNat) (Stmt.mk x22.Kind (w64 (s0.2.1 + (1 : Int))) x22.Event x22.Sum x22.Index x22.Facts)).set ((s0.2.2).toNat) (Stmt.mk x29.Kind x29.Var (w64 ((w64 (s0.2.1 + (1 : Int))) + (1 : Int))) x29.Sum x29.Index x29.Facts)).set ((s0.2.2).toNat) (Stmt.mk x36.Kind x36.Var x36.Event (Term.mk (w64 ((w64 ((w64 (s0.2.1 + (1 : Int))) + (1 : Int))) + (1 : Int))) x36.Sum.Coeffs) x36.Index x36.Facts)).set ((s0.2.2).toNat) (Stmt.mk x43.Kind x43.Var x43.Event (Term.mk x43.Sum.Const r48.2) x43.Index x43.Facts)).set ((s0.2.2).toNat) (Stmt.mk x52.Kind x52.Var x52.Event x52.Sum (Term.mk r48.1 x52.Index.Coeffs) x52.Facts)).set ((s0.2.2).toNat) (Stmt.mk x59.Kind x59.Var x59.Event x59.Sum (Term.mk x59.Index.Const r64.2) x59.Facts)).set ((s0.2.2).toNat) (Stmt.mk x67.Kind x67.Var x67.Event x67.Sum x67.Index r71.2))) (fun E' => c_laws_markTermS x67.Facts r64.1 r71 hr71 E') Try.call60 rfl rfl (get_map ((getI_spec hx67).2)) rfl rfl rfl rfl ⟨.inl ⟨rfl, rfl⟩, .inr ⟨rfl, rfl⟩, trivial⟩ rfl rfl rfl (List.map_set) rfl rfl rfl ?_
      refine TL_pure rfl rfl rfl rfl (op_assign rfl) ?_
      refine TL_nil ?_
      refine T_region ?_
      refine TL_pure rfl rfl rfl rfl (op_move rfl) ?_
      refine TL_pure rfl rfl rfl rfl (op_addW rfl rfl) ?_
      refine TL_pure rfl rfl rfl rfl (op_assign rfl) ?_
      refine TL_nil ?_
      refine TR_keepH [0, 1, 5] [0] rfl rfl rfl rfl (by rw [hF]; rfl) ?_
      obtain rfl := someI hm
      have hn := CtlOK_next hc0
      exact hn _ rfl
    · replace hm := condF hq hm
      refine T_keepH [1] [0] rfl rfl rfl rfl (by rw [hF]; rfl) ?_
      refine T_exit ?_
      obtain rfl := someI hm
      have hn := CtlOK_out hc0
      exact hx0 (s0.2.1, s0.1) hn
theorem c_laws_heldInt64S (p0 : List Int) (p1 : Int) (out : Int) (hm : m_laws_heldInt64S p0 p1 = some out) : ACall Try.prog 61 [.sl 1 (List.map a_i64 p0), .int .i64 p1] [] (.int .i64 out) [] := by
  refine ACall.intro Try.func61 rfl Try.ntmps61 rfl (fun F hF => ?_)
  unfold m_laws_heldInt64S at hm
  refine T_seq ?_
  refine T_region ?_
  refine TL_pure rfl rfl rfl rfl (op_assign rfl) ?_
  refine TL_nil ?_
  refine T_seq ?_
  refine T_seq ?_
  refine T_region ?_
  refine TL_pure rfl rfl rfl rfl (op_assign rfl) ?_
  refine TL_nil ?_
  refine T_block ?_
  refine T_keepH [0, 1, 5] [] rfl rfl rfl rfl (by rw [hF]; rfl) ?_
  refine T_loop ?_
  obtain ⟨u0, hl0, hm⟩ := bindS hm
  refine TR_iter2 (m_laws_heldInt64S_L0 p0) (fun (s0 : Int × Int) => ⟨[(0, .sl 1 (List.map a_i64 p0)), (1, .int .i64 s0.1), (5, .int .i64 s0.2)], []⟩) (fun u0 => match u0 with | .inl u0 => .exit 0 | .inr u0 => .ret) (fun u0 => match u0 with | .inl u0 => ⟨[(1, .int .i64 u0)], []⟩ | .inr u0 => ⟨[(4, .int .i64 u0)], []⟩) (fun u0 => m_laws_heldInt64S_A0 u0 = some out) hl0 hm (fun u0 hm => ?_) (fun hx0 s0 c0 hm hc0 => ?_)
  · rcases u0 with u0 | u0
    · unfold m_laws_heldInt64S_A0 at hm
      refine T_seq ?_
      refine T_region ?_
      refine TL_pure rfl rfl rfl rfl (op_move rfl) ?_
      refine TL_pure rfl rfl rfl rfl (op_assign rfl) ?_
      refine TL_nil ?_
      refine T_keepH [4] [] rfl rfl rfl rfl (by rw [hF]; rfl) ?_
      refine T_ret ?_
      obtain rfl := someI hm
      refine ⟨[_], [], ⟨rfl, trivial⟩, ?_, rfl, rfl, rfl, rfl⟩
      rfl
    · unfold m_laws_heldInt64S_A0 at hm
      obtain rfl := someI hm
      refine ⟨[_], [], ⟨rfl, trivial⟩, ?_, rfl, rfl, rfl, rfl⟩
      rfl
  · unfold m_laws_heldInt64S_L0 at hm
    refine T_seq ?_
    refine T_seq ?_
    refine T_region ?_
    refine TL_pure rfl rfl rfl rfl (op_move rfl) ?_
    refine TL_pure rfl rfl rfl rfl (op_move rfl) ?_
    refine TL_pure rfl rfl rfl rfl (op_lenT Try.underlying29 rfl (List.length_map _)) ?_
    refine TL_fact (fun _ _ _ hr => RelP.slLen (i := 7) rfl hr) (fun hlen8 => ?_)
    rw [List.length_map] at hlen8
    refine TL_pure rfl rfl rfl rfl (op_lss rfl rfl) ?_
    refine TL_nil ?_
    refine T_cond rfl (fun hq => ?_) (fun hq => ?_)
    · replace hm := condT hq hm
      refine T_skip ?_
      refine T_seq ?_
      refine T_block ?_
      refine T_seq ?_
      refine T_seq ?_
      refine T_region ?_
      refine TL_pure rfl rfl rfl rfl (op_move rfl) ?_
      refine TL_pure rfl rfl rfl rfl (op_move rfl) ?_
      obtain ⟨x14, hx14, hm⟩ := bindS hm
      refine TL_pure rfl rfl rfl rfl (op_indexT el29 rfl rfl hx14 rfl) ?_
      refine TL_pure rfl rfl rfl rfl (op_load_one ag2 rfl rfl) ?_
      refine TL_pure rfl rfl rfl rfl (op_move rfl) ?_
      refine TL_pure rfl rfl rfl rfl (op_neq rfl rfl) ?_
      refine TL_nil ?_
      refine T_cond rfl (fun hq => ?_) (fun hq => ?_)
      · replace hm := condT hq hm
        refine T_seq ?_
        refine T_region ?_
        refine TL_pure rfl rfl rfl rfl (op_assign rfl) ?_
        refine TL_nil ?_
        refine T_keepH [4] [] rfl rfl rfl rfl (by rw [hF]; rfl) ?_
        refine T_ret ?_
        obtain rfl := someI hm
        have hn := CtlOK_out hc0
        exact hx0 (.inr (-1 : Int)) hn
      · replace hm := condF hq hm
        refine T_skip ?_
        refine T_region ?_
        refine TL_pure rfl rfl rfl rfl (op_move rfl) ?_
        refine TL_pure rfl rfl rfl rfl (op_addW rfl rfl) ?_
        refine TL_pure rfl rfl rfl rfl (op_assign rfl) ?_
        refine TL_nil ?_
        refine T_region ?_
        refine TL_pure rfl rfl rfl rfl (op_move rfl) ?_
        refine TL_pure rfl rfl rfl rfl (op_addW rfl rfl) ?_
        refine TL_pure rfl rfl rfl rfl (op_assign rfl) ?_
        refine TL_nil ?_
        refine TR_keepH [0, 1, 5] [] rfl rfl rfl rfl (by rw [hF]; rfl) ?_
        obtain rfl := someI hm
        have hn := CtlOK_next hc0
        exact hn _ rfl
    · replace hm := condF hq hm
      refine T_keepH [1] [] rfl rfl rfl rfl (by rw [hF]; rfl) ?_
      refine T_exit ?_
      obtain rfl := someI hm
      have hn := CtlOK_out hc0
      exact hx0 (.inl s0.1) hn
theorem c_laws_heldTermS (p0 : List Term) (p1 : Int) (out : Int) (hm : m_laws_heldTermS p0 p1 = some out) : ACall Try.prog 62 [.sl 2 (List.map a_Term p0), .int .i64 p1] [] (.int .i64 out) [] := by
  refine ACall.intro Try.func62 rfl Try.ntmps62 rfl (fun F hF => ?_)
  unfold m_laws_heldTermS at hm
  refine T_seq ?_
  refine T_region ?_
  refine TL_pure rfl rfl rfl rfl (op_assign rfl) ?_
  refine TL_nil ?_
  refine T_seq ?_
  refine T_seq ?_
  refine T_region ?_
  refine TL_pure rfl rfl rfl rfl (op_assign rfl) ?_
  refine TL_nil ?_
  refine T_block ?_
  refine T_keepH [0, 1, 5] [] rfl rfl rfl rfl (by rw [hF]; rfl) ?_
  refine T_loop ?_
  obtain ⟨u0, hl0, hm⟩ := bindS hm
  refine TR_iter2 (m_laws_heldTermS_L0 p0) (fun (s0 : Int × Int) => ⟨[(0, .sl 2 (List.map a_Term p0)), (1, .int .i64 s0.1), (5, .int .i64 s0.2)], []⟩) (fun u0 => match u0 with | .inl u0 => .exit 0 | .inr u0 => .ret) (fun u0 => match u0 with | .inl u0 => ⟨[(1, .int .i64 u0)], []⟩ | .inr u0 => ⟨[(4, .int .i64 u0)], []⟩) (fun u0 => m_laws_heldTermS_A0 u0 = some out) hl0 hm (fun u0 hm => ?_) (fun hx0 s0 c0 hm hc0 => ?_)
  · rcases u0 with u0 | u0
    · unfold m_laws_heldTermS_A0 at hm
      refine T_seq ?_
      refine T_region ?_
      refine TL_pure rfl rfl rfl rfl (op_move rfl) ?_
      refine TL_pure rfl rfl rfl rfl (op_assign rfl) ?_
      refine TL_nil ?_
      refine T_keepH [4] [] rfl rfl rfl rfl (by rw [hF]; rfl) ?_
      refine T_ret ?_
      obtain rfl := someI hm
      refine ⟨[_], [], ⟨rfl, trivial⟩, ?_, rfl, rfl, rfl, rfl⟩
      rfl
    · unfold m_laws_heldTermS_A0 at hm
      obtain rfl := someI hm
      refine ⟨[_], [], ⟨rfl, trivial⟩, ?_, rfl, rfl, rfl, rfl⟩
      rfl
  · unfold m_laws_heldTermS_L0 at hm
    refine T_seq ?_
    refine T_seq ?_
    refine T_region ?_
    refine TL_pure rfl rfl rfl rfl (op_move rfl) ?_
    refine TL_pure rfl rfl rfl rfl (op_move rfl) ?_
    refine TL_pure rfl rfl rfl rfl (op_lenT Try.underlying24 rfl (List.length_map _)) ?_
    refine TL_fact (fun _ _ _ hr => RelP.slLen (i := 7) rfl hr) (fun hlen8 => ?_)
    rw [List.length_map] at hlen8
    refine TL_pure rfl rfl rfl rfl (op_lss rfl rfl) ?_
    refine TL_nil ?_
    refine T_cond rfl (fun hq => ?_) (fun hq => ?_)
    · replace hm := condT hq hm
      refine T_skip ?_
      refine T_seq ?_
      refine T_block ?_
      refine T_seq ?_
      refine T_seq ?_
      refine T_region ?_
      refine TL_pure rfl rfl rfl rfl (op_move rfl) ?_
      refine TL_pure rfl rfl rfl rfl (op_move rfl) ?_
      obtain ⟨x14, hx14, hm⟩ := bindS hm
      refine TL_pure rfl rfl rfl rfl (op_indexT el24 rfl rfl hx14 rfl) ?_
      refine TL_pure rfl rfl rfl rfl (op_fieldAddrC (n := 1) fa75_0 rfl rfl rfl) ?_
      refine TL_pure rfl rfl rfl rfl (op_load_one ag2 rfl rfl) ?_
      refine TL_pure rfl rfl rfl rfl (op_move rfl) ?_
      refine TL_pure rfl rfl rfl rfl (op_neq rfl rfl) ?_
      refine TL_nil ?_
      refine T_cond rfl (fun hq => ?_) (fun hq => ?_)
      · replace hm := condT hq hm
        refine T_seq ?_
        refine T_region ?_
        refine TL_pure rfl rfl rfl rfl (op_assign rfl) ?_
        refine TL_nil ?_
        refine T_keepH [4] [] rfl rfl rfl rfl (by rw [hF]; rfl) ?_
        refine T_ret ?_
        obtain rfl := someI hm
        have hn := CtlOK_out hc0
        exact hx0 (.inr (-1 : Int)) hn
      · replace hm := condF hq hm
        refine T_skip ?_
        refine T_seq ?_
        refine T_region ?_
        refine TL_pure rfl rfl rfl rfl (op_move rfl) ?_
        refine TL_pure rfl rfl rfl rfl (op_addW rfl rfl) ?_
        refine TL_pure rfl rfl rfl rfl (op_assign rfl) ?_
        refine TL_nil ?_
        refine T_seq ?_
        refine T_region ?_
        refine TL_pure rfl rfl rfl rfl (op_move rfl) ?_
        refine TL_pure rfl rfl rfl rfl (op_move rfl) ?_
        refine TL_pure rfl rfl rfl rfl (op_indexT el24 rfl rfl hx14 rfl) ?_
        refine TL_pure rfl rfl rfl rfl (op_fieldAddr fa75_1 rfl rfl) ?_
        refine TL_pure rfl rfl rfl rfl (op_load_one ag29 rfl rfl) ?_
        refine TL_pure rfl rfl rfl rfl (op_move rfl) ?_
        obtain ⟨r27, hr27, hm⟩ := bindS hm
        refine TL_callF (c_laws_heldInt64S x14.Coeffs (w64 (s0.1 + (1 : Int))) r27 hr27) Try.call61 rfl rfl rfl rfl rfl ?_
        refine TL_pure rfl rfl rfl rfl (op_assign rfl) ?_
        refine TL_nil ?_
        refine T_seq ?_
        refine T_region ?_
        refine TL_pure rfl rfl rfl rfl (op_move rfl) ?_
        refine TL_pure rfl rfl rfl rfl (op_lss rfl rfl) ?_
        refine TL_nil ?_
        refine T_cond rfl (fun hq => ?_) (fun hq => ?_)
        · replace hm := condT hq hm
          refine T_seq ?_
          refine T_region ?_
          refine TL_pure rfl rfl rfl rfl (op_assign rfl) ?_
          refine TL_nil ?_
          refine T_keepH [4] [] rfl rfl rfl rfl (by rw [hF]; rfl) ?_
          refine T_ret ?_
          obtain rfl := someI hm
          have hn := CtlOK_out hc0
          exact hx0 (.inr (-1 : Int)) hn
        · replace hm := condF hq hm
          refine T_skip ?_
          refine T_region ?_
          refine TL_pure rfl rfl rfl rfl (op_move rfl) ?_
          refine TL_pure rfl rfl rfl rfl (op_addW rfl rfl) ?_
          refine TL_pure rfl rfl rfl rfl (op_assign rfl) ?_
          refine TL_nil ?_
          refine TR_keepH [0, 1, 5] [] rfl rfl rfl rfl (by rw [hF]; rfl) ?_
          obtain rfl := someI hm
          have hn := CtlOK_next hc0
          exact hn _ rfl
    · replace hm := condF hq hm
      refine T_keepH [1] [] rfl rfl rfl rfl (by rw [hF]; rfl) ?_
      refine T_exit ?_
      obtain rfl := someI hm
      have hn := CtlOK_out hc0
      exact hx0 (.inl s0.1) hn
theorem c_laws_heldStmtS (p0 : List Stmt) (p1 : Int) (out : Int) (hm : m_laws_heldStmtS p0 p1 = some out) : ACall Try.prog 27 [.sl 8 (List.map a_Stmt p0), .int .i64 p1] [] (.int .i64 out) [] := by
  refine ACall.intro Try.func27 rfl Try.ntmps27 rfl (fun F hF => ?_)
  unfold m_laws_heldStmtS at hm
  refine T_seq ?_
  refine T_region ?_
  refine TL_pure rfl rfl rfl rfl (op_assign rfl) ?_
  refine TL_nil ?_
  refine T_seq ?_
  refine T_seq ?_
  refine T_region ?_
  refine TL_pure rfl rfl rfl rfl (op_assign rfl) ?_
  refine TL_nil ?_
  refine T_block ?_
  refine T_keepH [0, 1, 5] [] rfl rfl rfl rfl (by rw [hF]; rfl) ?_
  refine T_loop ?_
  obtain ⟨u0, hl0, hm⟩ := bindS hm
  refine TR_iter2 (m_laws_heldStmtS_L0 p0) (fun (s0 : Int × Int) => ⟨[(0, .sl 8 (List.map a_Stmt p0)), (1, .int .i64 s0.1), (5, .int .i64 s0.2)], []⟩) (fun u0 => match u0 with | .inl u0 => .exit 0 | .inr u0 => .ret) (fun u0 => match u0 with | .inl u0 => ⟨[(1, .int .i64 u0)], []⟩ | .inr u0 => ⟨[(4, .int .i64 u0)], []⟩) (fun u0 => m_laws_heldStmtS_A0 u0 = some out) hl0 hm (fun u0 hm => ?_) (fun hx0 s0 c0 hm hc0 => ?_)
  · rcases u0 with u0 | u0
    · unfold m_laws_heldStmtS_A0 at hm
      refine T_seq ?_
      refine T_region ?_
      refine TL_pure rfl rfl rfl rfl (op_move rfl) ?_
      refine TL_pure rfl rfl rfl rfl (op_assign rfl) ?_
      refine TL_nil ?_
      refine T_keepH [4] [] rfl rfl rfl rfl (by rw [hF]; rfl) ?_
      refine T_ret ?_
      obtain rfl := someI hm
      refine ⟨[_], [], ⟨rfl, trivial⟩, ?_, rfl, rfl, rfl, rfl⟩
      rfl
    · unfold m_laws_heldStmtS_A0 at hm
      obtain rfl := someI hm
      refine ⟨[_], [], ⟨rfl, trivial⟩, ?_, rfl, rfl, rfl, rfl⟩
      rfl
  · unfold m_laws_heldStmtS_L0 at hm
    refine T_seq ?_
    refine T_seq ?_
    refine T_region ?_
    refine TL_pure rfl rfl rfl rfl (op_move rfl) ?_
    refine TL_pure rfl rfl rfl rfl (op_move rfl) ?_
    refine TL_pure rfl rfl rfl rfl (op_lenT Try.underlying25 rfl (List.length_map _)) ?_
    refine TL_fact (fun _ _ _ hr => RelP.slLen (i := 7) rfl hr) (fun hlen8 => ?_)
    rw [List.length_map] at hlen8
    refine TL_pure rfl rfl rfl rfl (op_lss rfl rfl) ?_
    refine TL_nil ?_
    refine T_cond rfl (fun hq => ?_) (fun hq => ?_)
    · replace hm := condT hq hm
      refine T_skip ?_
      refine T_seq ?_
      refine T_block ?_
      refine T_seq ?_
      refine T_seq ?_
      refine T_region ?_
      refine TL_pure rfl rfl rfl rfl (op_move rfl) ?_
      refine TL_pure rfl rfl rfl rfl (op_move rfl) ?_
      obtain ⟨x14, hx14, hm⟩ := bindS hm
      refine TL_pure rfl rfl rfl rfl (op_indexT el25 rfl rfl hx14 rfl) ?_
      refine TL_pure rfl rfl rfl rfl (op_fieldAddrC (n := 1) fa77_0 rfl rfl rfl) ?_
      refine TL_pure rfl rfl rfl rfl (op_load_one ag2 rfl rfl) ?_
      refine TL_pure rfl rfl rfl rfl (op_move rfl) ?_
      refine TL_pure rfl rfl rfl rfl (op_neq rfl rfl) ?_
      refine TL_nil ?_
      refine T_cond rfl (fun hq => ?_) (fun hq => ?_)
      · replace hm := condT hq hm
        refine T_seq ?_
        refine T_region ?_
        refine TL_pure rfl rfl rfl rfl (op_assign rfl) ?_
        refine TL_nil ?_
        refine T_keepH [4] [] rfl rfl rfl rfl (by rw [hF]; rfl) ?_
        refine T_ret ?_
        obtain rfl := someI hm
        have hn := CtlOK_out hc0
        exact hx0 (.inr (-1 : Int)) hn
      · replace hm := condF hq hm
        refine T_skip ?_
        refine T_seq ?_
        refine T_region ?_
        refine TL_pure rfl rfl rfl rfl (op_move rfl) ?_
        refine TL_pure rfl rfl rfl rfl (op_addW rfl rfl) ?_
        refine TL_pure rfl rfl rfl rfl (op_assign rfl) ?_
        refine TL_nil ?_
        refine T_seq ?_
        refine T_seq ?_
        refine T_region ?_
        refine TL_pure rfl rfl rfl rfl (op_move rfl) ?_
        refine TL_pure rfl rfl rfl rfl (op_move rfl) ?_
        refine TL_pure rfl rfl rfl rfl (op_indexT el25 rfl rfl hx14 rfl) ?_
        refine TL_pure rfl rfl rfl rfl (op_fieldAddrC (n := 1) fa77_1 rfl rfl rfl) ?_
        refine TL_pure rfl rfl rfl rfl (op_load_one ag2 rfl rfl) ?_
        refine TL_pure rfl rfl rfl rfl (op_move rfl) ?_
        refine TL_pure rfl rfl rfl rfl (op_neq rfl rfl) ?_
        refine TL_nil ?_
        refine T_cond rfl (fun hq => ?_) (fun hq => ?_)
        · replace hm := condT hq hm
          refine T_seq ?_
          refine T_region ?_
          refine TL_pure rfl rfl rfl rfl (op_assign rfl) ?_
          refine TL_nil ?_
          refine T_keepH [4] [] rfl rfl rfl rfl (by rw [hF]; rfl) ?_
          refine T_ret ?_
          obtain rfl := someI hm
          have hn := CtlOK_out hc0
          exact hx0 (.inr (-1 : Int)) hn
        · replace hm := condF hq hm
          refine T_skip ?_
          refine T_seq ?_
          refine T_region ?_
          refine TL_pure rfl rfl rfl rfl (op_move rfl) ?_
          refine TL_pure rfl rfl rfl rfl (op_addW rfl rfl) ?_
          refine TL_pure rfl rfl rfl rfl (op_assign rfl) ?_
          refine TL_nil ?_
          refine T_seq ?_
          refine T_seq ?_
          refine T_region ?_
          refine TL_pure rfl rfl rfl rfl (op_move rfl) ?_
          refine TL_pure rfl rfl rfl rfl (op_move rfl) ?_
          refine TL_pure rfl rfl rfl rfl (op_indexT el25 rfl rfl hx14 rfl) ?_
          refine TL_pure rfl rfl rfl rfl (op_fieldAddrC (n := 1) fa77_2 rfl rfl rfl) ?_
          refine TL_pure rfl rfl rfl rfl (op_load_one ag2 rfl rfl) ?_
          refine TL_pure rfl rfl rfl rfl (op_move rfl) ?_
          refine TL_pure rfl rfl rfl rfl (op_neq rfl rfl) ?_
          refine TL_nil ?_
          refine T_cond rfl (fun hq => ?_) (fun hq => ?_)
          · replace hm := condT hq hm
            refine T_seq ?_
            refine T_region ?_
            refine TL_pure rfl rfl rfl rfl (op_assign rfl) ?_
            refine TL_nil ?_
            refine T_keepH [4] [] rfl rfl rfl rfl (by rw [hF]; rfl) ?_
            refine T_ret ?_
            obtain rfl := someI hm
            have hn := CtlOK_out hc0
            exact hx0 (.inr (-1 : Int)) hn
          · replace hm := condF hq hm
            refine T_skip ?_
            refine T_seq ?_
            refine T_region ?_
            refine TL_pure rfl rfl rfl rfl (op_move rfl) ?_
            refine TL_pure rfl rfl rfl rfl (op_addW rfl rfl) ?_
            refine TL_pure rfl rfl rfl rfl (op_assign rfl) ?_
            refine TL_nil ?_
            refine T_seq ?_
            refine T_seq ?_
            refine T_region ?_
            refine TL_pure rfl rfl rfl rfl (op_move rfl) ?_
            refine TL_pure rfl rfl rfl rfl (op_move rfl) ?_
            refine TL_pure rfl rfl rfl rfl (op_indexT el25 rfl rfl hx14 rfl) ?_
            refine TL_pure rfl rfl rfl rfl (op_fieldAddrC (n := 2) fa77_3 rfl rfl rfl) ?_
            refine TL_pure rfl rfl rfl rfl (op_fieldAddrC (n := 1) fa75_0 rfl rfl rfl) ?_
            refine TL_pure rfl rfl rfl rfl (op_load_one ag2 rfl rfl) ?_
            refine TL_pure rfl rfl rfl rfl (op_move rfl) ?_
            refine TL_pure rfl rfl rfl rfl (op_neq rfl rfl) ?_
            refine TL_nil ?_
            refine T_cond rfl (fun hq => ?_) (fun hq => ?_)
            · replace hm := condT hq hm
              refine T_seq ?_
              refine T_region ?_
              refine TL_pure rfl rfl rfl rfl (op_assign rfl) ?_
              refine TL_nil ?_
              refine T_keepH [4] [] rfl rfl rfl rfl (by rw [hF]; rfl) ?_
              refine T_ret ?_
              obtain rfl := someI hm
              have hn := CtlOK_out hc0
              exact hx0 (.inr (-1 : Int)) hn
            · replace hm := condF hq hm
              refine T_skip ?_
              refine T_seq ?_
              refine T_region ?_
              refine TL_pure rfl rfl rfl rfl (op_move rfl) ?_
              refine TL_pure rfl rfl rfl rfl (op_addW rfl rfl) ?_
              refine TL_pure rfl rfl rfl rfl (op_assign rfl) ?_
              refine TL_nil ?_
              refine T_seq ?_
              refine T_region ?_
              refine TL_pure rfl rfl rfl rfl (op_move rfl) ?_
              refine TL_pure rfl rfl rfl rfl (op_move rfl) ?_
              refine TL_pure rfl rfl rfl rfl (op_indexT el25 rfl rfl hx14 rfl) ?_
              refine TL_pure rfl rfl rfl rfl (op_fieldAddrC (n := 2) fa77_3 rfl rfl rfl) ?_
              refine TL_pure rfl rfl rfl rfl (op_fieldAddr fa75_1 rfl rfl) ?_
              refine TL_pure rfl rfl rfl rfl (op_load_one ag29 rfl rfl) ?_
              refine TL_pure rfl rfl rfl rfl (op_move rfl) ?_
              obtain ⟨r56, hr56, hm⟩ := bindS hm
              refine TL_callF (c_laws_heldInt64S x14.Sum.Coeffs (w64 ((w64 ((w64 ((w64 (s0.1 + (1 : Int))) + (1 : Int))) + (1 : Int))) + (1 : Int))) r56 hr56) Try.call61 rfl rfl rfl rfl rfl ?_
              refine TL_pure rfl rfl rfl rfl (op_assign rfl) ?_
              refine TL_nil ?_
              refine T_seq ?_
              refine T_seq ?_
              refine T_region ?_
              refine TL_pure rfl rfl rfl rfl (op_move rfl) ?_
              refine TL_pure rfl rfl rfl rfl (op_lss rfl rfl) ?_
              refine TL_nil ?_
              refine T_cond rfl (fun hq => ?_) (fun hq => ?_)
              · replace hm := condT hq hm
                refine T_seq ?_
                refine T_region ?_
                refine TL_pure rfl rfl rfl rfl (op_assign rfl) ?_
                refine TL_nil ?_
                refine T_keepH [4] [] rfl rfl rfl rfl (by rw [hF]; rfl) ?_
                refine T_ret ?_
                obtain rfl := someI hm
                have hn := CtlOK_out hc0
                exact hx0 (.inr (-1 : Int)) hn
              · replace hm := condF hq hm
                refine T_skip ?_
                refine T_seq ?_
                refine T_seq ?_
                refine T_region ?_
                refine TL_pure rfl rfl rfl rfl (op_move rfl) ?_
                refine TL_pure rfl rfl rfl rfl (op_move rfl) ?_
                refine TL_pure rfl rfl rfl rfl (op_indexT el25 rfl rfl hx14 rfl) ?_
                refine TL_pure rfl rfl rfl rfl (op_fieldAddrC (n := 2) fa77_4 rfl rfl rfl) ?_
                refine TL_pure rfl rfl rfl rfl (op_fieldAddrC (n := 1) fa75_0 rfl rfl rfl) ?_
                refine TL_pure rfl rfl rfl rfl (op_load_one ag2 rfl rfl) ?_
                refine TL_pure rfl rfl rfl rfl (op_move rfl) ?_
                refine TL_pure rfl rfl rfl rfl (op_neq rfl rfl) ?_
                refine TL_nil ?_
                refine T_cond rfl (fun hq => ?_) (fun hq => ?_)
                · replace hm := condT hq hm
                  refine T_seq ?_
                  refine T_region ?_
                  refine TL_pure rfl rfl rfl rfl (op_assign rfl) ?_
                  refine TL_nil ?_
                  refine T_keepH [4] [] rfl rfl rfl rfl (by rw [hF]; rfl) ?_
                  refine T_ret ?_
                  obtain rfl := someI hm
                  have hn := CtlOK_out hc0
                  exact hx0 (.inr (-1 : Int)) hn
                · replace hm := condF hq hm
                  refine T_skip ?_
                  refine T_seq ?_
                  refine T_region ?_
                  refine TL_pure rfl rfl rfl rfl (op_move rfl) ?_
                  refine TL_pure rfl rfl rfl rfl (op_addW rfl rfl) ?_
                  refine TL_pure rfl rfl rfl rfl (op_assign rfl) ?_
                  refine TL_nil ?_
                  refine T_seq ?_
                  refine T_region ?_
                  refine TL_pure rfl rfl rfl rfl (op_move rfl) ?_
                  refine TL_pure rfl rfl rfl rfl (op_move rfl) ?_
                  refine TL_pure rfl rfl rfl rfl (op_indexT el25 rfl rfl hx14 rfl) ?_
                  refine TL_pure rfl rfl rfl rfl (op_fieldAddrC (n := 2) fa77_4 rfl rfl rfl) ?_
                  refine TL_pure rfl rfl rfl rfl (op_fieldAddr fa75_1 rfl rfl) ?_
                  refine TL_pure rfl rfl rfl rfl (op_load_one ag29 rfl rfl) ?_
                  refine TL_pure rfl rfl rfl rfl (op_move rfl) ?_
                  obtain ⟨r76, hr76, hm⟩ := bindS hm
                  refine TL_callF (c_laws_heldInt64S x14.Index.Coeffs (w64 (r56 + (1 : Int))) r76 hr76) Try.call61 rfl rfl rfl rfl rfl ?_
                  refine TL_pure rfl rfl rfl rfl (op_assign rfl) ?_
                  refine TL_nil ?_
                  refine T_seq ?_
                  refine T_seq ?_
                  refine T_region ?_
                  refine TL_pure rfl rfl rfl rfl (op_move rfl) ?_
                  refine TL_pure rfl rfl rfl rfl (op_lss rfl rfl) ?_
                  refine TL_nil ?_
                  refine T_cond rfl (fun hq => ?_) (fun hq => ?_)
                  · replace hm := condT hq hm
                    refine T_seq ?_
                    refine T_region ?_
                    refine TL_pure rfl rfl rfl rfl (op_assign rfl) ?_
                    refine TL_nil ?_
                    refine T_keepH [4] [] rfl rfl rfl rfl (by rw [hF]; rfl) ?_
                    refine T_ret ?_
                    obtain rfl := someI hm
                    have hn := CtlOK_out hc0
                    exact hx0 (.inr (-1 : Int)) hn
                  · replace hm := condF hq hm
                    refine T_skip ?_
                    refine T_seq ?_
                    refine T_region ?_
                    refine TL_pure rfl rfl rfl rfl (op_move rfl) ?_
                    refine TL_pure rfl rfl rfl rfl (op_move rfl) ?_
                    refine TL_pure rfl rfl rfl rfl (op_indexT el25 rfl rfl hx14 rfl) ?_
                    refine TL_pure rfl rfl rfl rfl (op_fieldAddr fa77_5 rfl rfl) ?_
                    refine TL_pure rfl rfl rfl rfl (op_load_one ag24 rfl rfl) ?_
                    refine TL_pure rfl rfl rfl rfl (op_move rfl) ?_
                    obtain ⟨r85, hr85, hm⟩ := bindS hm
                    refine TL_callF (c_laws_heldTermS x14.Facts r76 r85 hr85) Try.call62 rfl rfl rfl rfl rfl ?_
                    refine TL_pure rfl rfl rfl rfl (op_assign rfl) ?_
                    refine TL_nil ?_
                    refine T_seq ?_
                    refine T_region ?_
                    refine TL_pure rfl rfl rfl rfl (op_move rfl) ?_
                    refine TL_pure rfl rfl rfl rfl (op_lss rfl rfl) ?_
                    refine TL_nil ?_
                    refine T_cond rfl (fun hq => ?_) (fun hq => ?_)
                    · replace hm := condT hq hm
                      refine T_seq ?_
                      refine T_region ?_
                      refine TL_pure rfl rfl rfl rfl (op_assign rfl) ?_
                      refine TL_nil ?_
                      refine T_keepH [4] [] rfl rfl rfl rfl (by rw [hF]; rfl) ?_
                      refine T_ret ?_
                      obtain rfl := someI hm
                      have hn := CtlOK_out hc0
                      exact hx0 (.inr (-1 : Int)) hn
                    · replace hm := condF hq hm
                      refine T_skip ?_
                      refine T_region ?_
                      refine TL_pure rfl rfl rfl rfl (op_move rfl) ?_
                      refine TL_pure rfl rfl rfl rfl (op_addW rfl rfl) ?_
                      refine TL_pure rfl rfl rfl rfl (op_assign rfl) ?_
                      refine TL_nil ?_
                      refine TR_keepH [0, 1, 5] [] rfl rfl rfl rfl (by rw [hF]; rfl) ?_
                      obtain rfl := someI hm
                      have hn := CtlOK_next hc0
                      exact hn _ rfl
    · replace hm := condF hq hm
      refine T_keepH [1] [] rfl rfl rfl rfl (by rw [hF]; rfl) ?_
      refine T_exit ?_
      obtain rfl := someI hm
      have hn := CtlOK_out hc0
      exact hx0 (.inl s0.1) hn
end Go.Mod
