import Derived.Test.YtagnekdlhllndaaGg
namespace Go.Mod
open Go Go.AM Go.Proofs
set_option linter.unusedVariables false
set_option linter.unusedSimpArgs false
set_option maxRecDepth 100000
set_option maxHeartbeats 8000000
theorem c_impl_tree_simplified_F (rec_impl_tree_simplified : Ptree → Option Ptree) (hrec_impl_tree_simplified : ∀ (p0 : Ptree) (out : Ptree), rec_impl_tree_simplified p0 = some out → ACall Try.prog 69 [Qg p0] [] (Qg out) []) (p0 : Ptree) (out : Ptree) (hm : m_impl_tree_simplified_F rec_impl_tree_simplified p0 = some out) : ACall Try.prog 69 [Qg p0] [] (Qg out) [] := by
 refine ACall.intro Try.func69 rfl Try.ntmps69 rfl (fun F hF => ?_)
 unfold m_impl_tree_simplified_F at hm
 refine Qn ?_
 refine Qc ?_
 refine Qa rfl rfl rfl rfl (Qb rfl) ?_
 refine Qe ?_
 refine Qn ?_
 refine Qc ?_
 refine Qa rfl rfl rfl rfl (Qd rfl) ?_
 obtain ⟨o8, ho8, hm⟩ := Qv hm
 refine TL_trAt 8 (x' := .cp [.int .i64 o8.Stmt.Kind, .int .i64 o8.Stmt.Var, .int .i64 o8.Stmt.Event, .int .i64 o8.Stmt.Sum.Const, .sl 1 (List.map Qf o8.Stmt.Sum.Coeffs), .int .i64 o8.Stmt.Index.Const, .sl 1 (List.map Qf o8.Stmt.Index.Coeffs), .sl 2 (List.map Qq o8.Stmt.Facts), .int .i64 o8.at_, .sl 1 (List.map Qg o8.kids)]) rfl (Xh (QV ho8)) rfl ?_
 refine Qa rfl rfl rfl rfl (Qs rfl rfl) ?_
 refine Qa rfl rfl rfl rfl (Qu (n := 8) fa132_0 rfl rfl rfl) ?_
 refine Qa rfl rfl rfl rfl (Qt ag77 sz77 rfl rfl rfl) ?_
 refine Qa rfl rfl rfl rfl (Xn pl132 z132 rfl rfl rfl rfl rfl) ?_
 refine TL_box 11 rfl rfl rfl rfl rfl rfl rfl ?_
 refine Qa rfl rfl rfl rfl (Qb rfl) ?_
 refine Qe ?_
 refine Qn ?_
 refine Qn ?_
 refine Qc ?_
 refine Qa rfl rfl rfl rfl (Qd rfl) ?_
 refine TL_trAt 14 (x' := .cp [.int .i64 o8.Stmt.Kind, .int .i64 o8.Stmt.Var, .int .i64 o8.Stmt.Event, .int .i64 o8.Stmt.Sum.Const, .sl 1 (List.map Qf o8.Stmt.Sum.Coeffs), .int .i64 o8.Stmt.Index.Const, .sl 1 (List.map Qf o8.Stmt.Index.Coeffs), .sl 2 (List.map Qq o8.Stmt.Facts), .int .i64 o8.at_, .sl 1 (List.map Qg o8.kids)]) rfl (Xh (QV ho8)) rfl ?_
 refine Qa rfl rfl rfl rfl (Qs rfl rfl) ?_
 refine Qa rfl rfl rfl rfl (Qi fa132_2 rfl rfl) ?_
 refine Qa rfl rfl rfl rfl (Qj ag129 rfl rfl) ?_
 refine Qa rfl rfl rfl rfl (Xm Try.underlying129 rfl (List.length_map _)) ?_
 refine Xy (fun _ _ _ hr => RelP.slLen (i := 17) rfl hr) (fun hlen18 => ?_)
 rw [List.length_map] at hlen18
 refine Qa rfl rfl rfl rfl (Qd rfl) ?_
 refine Qe ?_
 refine Xd ?_
 refine Xo 11 9 2893 ⟨false, false⟩ 88 rfl rfl rfl (sz := 1) rfl rfl rfl rfl ?_
 refine Qo [0, 3, 17, 18, 19] [11, 2893] rfl rfl rfl rfl (by rw [hF]; rfl) ?_
 refine T_ren [(11, 11), (2893, 70001)] rfl rfl rfl (by rw [hF]; rfl) ?_
 refine T_loop ?_
 obtain ⟨u0, hl0, hm⟩ := Qv hm
 refine TR_forL2 o8.kids (Xp rec_impl_tree_simplified) (fun (s0 : List Ptree) => s0) (fun n0 (s0 : List Ptree) => ⟨[(0, Qg p0), (3, .ptr 11 0 0), (17, .sl 1 (List.map Qg o8.kids)), (18, .int .i64 (o8.kids.length : Int)), (19, .int .i64 (n0 : Int))], [(11, .box [.int .i64 o8.Stmt.Kind, .int .i64 o8.Stmt.Var, .int .i64 o8.Stmt.Event, .int .i64 o8.Stmt.Sum.Const, .sl 1 (List.map Qf o8.Stmt.Sum.Coeffs), .int .i64 o8.Stmt.Index.Const, .sl 1 (List.map Qf o8.Stmt.Index.Coeffs), .sl 2 (List.map Qq o8.Stmt.Facts), .int .i64 (0 : Int), .ow 70001]), (70001, .arr ⟨false, false⟩ 1 88 (List.map Qg s0))]⟩) (fun u0 => .exit 0) (fun u0 => ⟨[(0, Qg p0), (3, .ptr 11 0 0)], [(11, .box [.int .i64 o8.Stmt.Kind, .int .i64 o8.Stmt.Var, .int .i64 o8.Stmt.Event, .int .i64 o8.Stmt.Sum.Const, .sl 1 (List.map Qf o8.Stmt.Sum.Coeffs), .int .i64 o8.Stmt.Index.Const, .sl 1 (List.map Qf o8.Stmt.Index.Coeffs), .sl 2 (List.map Qq o8.Stmt.Facts), .int .i64 (0 : Int), .ow 70001]), (70001, .arr ⟨false, false⟩ 1 88 (List.map Qg u0))]⟩) (fun u0 => m_impl_tree_simplified_F_A0 o8 u0 = some out) hl0 hm (fun u0 hm => ?_) (fun hx0 s0 hm => ?_) (fun hx0 n0 x0 s0 c0 hxn0 hlt0 hm hc0 => ?_)
 ·unfold m_impl_tree_simplified_F_A0 at hm
  refine Qn ?_
  refine Qc ?_
  refine Qa rfl rfl rfl rfl (Xn pl77 z77 rfl rfl rfl rfl rfl) ?_
  refine Qa rfl rfl rfl rfl (Xn pl132 z132 rfl rfl rfl rfl rfl) ?_
  refine TL_box 2892 rfl rfl rfl rfl rfl rfl rfl ?_
  refine Qa rfl rfl rfl rfl (Qb rfl) ?_
  refine Qe ?_
  refine Qn ?_
  refine Qc ?_
  refine Qa rfl rfl rfl rfl (Qd rfl) ?_
  refine TL_trAt 38 (x' := .cp [.int .i64 o8.Stmt.Kind, .int .i64 o8.Stmt.Var, .int .i64 o8.Stmt.Event, .int .i64 o8.Stmt.Sum.Const, .sl 1 (List.map Qf o8.Stmt.Sum.Coeffs), .int .i64 o8.Stmt.Index.Const, .sl 1 (List.map Qf o8.Stmt.Index.Coeffs), .sl 2 (List.map Qq o8.Stmt.Facts), .int .i64 o8.at_, .sl 1 (List.map Qg o8.kids)]) rfl (Xh (QV ho8)) rfl ?_
  refine Qa rfl rfl rfl rfl (Qs rfl rfl) ?_
  refine Qa rfl rfl rfl rfl (Qu (n := 8) fa132_0 rfl rfl rfl) ?_
  refine Qa rfl rfl rfl rfl (Qu (n := 2) fa77_3 rfl rfl rfl) ?_
  refine Qa rfl rfl rfl rfl (Qi fa75_1 rfl rfl) ?_
  refine Qa rfl rfl rfl rfl (Qj ag29 rfl rfl) ?_
  refine Qa rfl rfl rfl rfl (Xm Try.underlying29 rfl (List.length_map _)) ?_
  refine Xy (fun _ _ _ hr => RelP.slLen (i := 43) rfl hr) (fun hlen44 => ?_)
  rw [List.length_map] at hlen44
  refine Qa rfl rfl rfl rfl (Xq rfl rfl) ?_
  refine Qa rfl rfl rfl rfl (Qb rfl) ?_
  refine Qe ?_
  refine Qn ?_
  refine Qn ?_
  refine Qc ?_
  refine Qa rfl rfl rfl rfl (Qd rfl) ?_
  refine TL_trAt 46 (x' := .cp [.int .i64 o8.Stmt.Kind, .int .i64 o8.Stmt.Var, .int .i64 o8.Stmt.Event, .int .i64 o8.Stmt.Sum.Const, .sl 1 (List.map Qf o8.Stmt.Sum.Coeffs), .int .i64 o8.Stmt.Index.Const, .sl 1 (List.map Qf o8.Stmt.Index.Coeffs), .sl 2 (List.map Qq o8.Stmt.Facts), .int .i64 o8.at_, .sl 1 (List.map Qg o8.kids)]) rfl (Xh (QV ho8)) rfl ?_
  refine Qa rfl rfl rfl rfl (Qs rfl rfl) ?_
  refine Qa rfl rfl rfl rfl (Qu (n := 8) fa132_0 rfl rfl rfl) ?_
  refine Qa rfl rfl rfl rfl (Qu (n := 1) fa77_0 rfl rfl rfl) ?_
  refine Qa rfl rfl rfl rfl (Qj ag2 rfl rfl) ?_
  refine Qe ?_
  refine Xd ?_
  refine Qn ?_
  refine Qc ?_
  refine Qa rfl rfl rfl rfl (Xq rfl rfl) ?_
  refine Qa rfl rfl rfl rfl (Qb rfl) ?_
  refine Qe ?_
  refine QI rfl (fun hq => ?_) (fun hq => ?_)
  ·replace hm := QO hq hm
   refine Qn ?_
   refine Qn ?_
   refine Qc ?_
   refine Qa rfl rfl rfl rfl (Qd rfl) ?_
   refine Qa rfl rfl rfl rfl (Qs rfl rfl) ?_
   refine Qa rfl rfl rfl rfl (Qi fa132_2 rfl rfl) ?_
   refine Qa rfl rfl rfl rfl (Qj ag129 rfl rfl) ?_
   obtain ⟨x57, hx57, hm⟩ := Qv hm
   refine Qa rfl rfl rfl rfl (op_indexO el129 rfl rfl rfl hx57) ?_
   refine Qa rfl rfl rfl rfl (op_loadT1 ag88 rfl rfl ((getI_spec hx57).2) rfl rfl) ?_
   obtain ⟨o58, ho58, hm⟩ := Qv hm
   refine TL_trAt 58 (x' := .cp [.int .i64 o58.Stmt.Kind, .int .i64 o58.Stmt.Var, .int .i64 o58.Stmt.Event, .int .i64 o58.Stmt.Sum.Const, .sl 1 (List.map Qf o58.Stmt.Sum.Coeffs), .int .i64 o58.Stmt.Index.Const, .sl 1 (List.map Qf o58.Stmt.Index.Coeffs), .sl 2 (List.map Qq o58.Stmt.Facts), .int .i64 o58.at_, .sl 1 (List.map Qg o58.kids)]) rfl (Xh (QV ho58)) rfl ?_
   refine Qa rfl rfl rfl rfl (Qs rfl rfl) ?_
   refine Qa rfl rfl rfl rfl (Qu (n := 8) fa132_0 rfl rfl rfl) ?_
   refine Qa rfl rfl rfl rfl (Qu (n := 1) fa77_0 rfl rfl rfl) ?_
   refine Qa rfl rfl rfl rfl (Qj ag2 rfl rfl) ?_
   refine Qa rfl rfl rfl rfl (Xq rfl rfl) ?_
   refine Qe ?_
   refine QI rfl (fun hq => ?_) (fun hq => ?_)
   ·replace hm := QO hq hm
    refine Qn ?_
    refine Qc ?_
    refine Qa rfl rfl rfl rfl (Qd rfl) ?_
    refine Qa rfl rfl rfl rfl (Qs rfl rfl) ?_
    refine Qa rfl rfl rfl rfl (Qi fa132_2 rfl rfl) ?_
    refine Qa rfl rfl rfl rfl (Qj ag129 rfl rfl) ?_
    obtain ⟨x68, hx68, hm⟩ := Qv hm
    refine Qa rfl rfl rfl rfl (op_indexO el129 rfl rfl rfl hx68) ?_
    refine Qa rfl rfl rfl rfl (op_loadT1 ag88 rfl rfl ((getI_spec hx68).2) rfl rfl) ?_
    refine Qa rfl rfl rfl rfl (Qb rfl) ?_
    refine Qe ?_
    refine Qo [2] [] rfl rfl rfl rfl (by rw [hF]; rfl) ?_
    refine QB ?_
    obtain rfl := Qw hm
    refine ⟨[_], [], ⟨rfl, trivial⟩, ?_, rfl, rfl, rfl, rfl⟩
    rfl
   ·replace hm := QM hq hm
    refine QL ?_
    refine Qn ?_
    refine Qc ?_
    refine Qa rfl rfl rfl rfl (Qd rfl) ?_
    refine Qa rfl rfl rfl rfl (Qs rfl rfl) ?_
    refine Qa rfl rfl rfl rfl (Qi fa132_2 rfl rfl) ?_
    refine Qa rfl rfl rfl rfl (Qj ag129 rfl rfl) ?_
    obtain ⟨x74, hx74, hm⟩ := Qv hm
    refine Qa rfl rfl rfl rfl (op_indexO el129 rfl rfl rfl hx74) ?_
    refine Qa rfl rfl rfl rfl (op_loadT1 ag88 rfl rfl ((getI_spec hx74).2) rfl rfl) ?_
    obtain ⟨o75, ho75, hm⟩ := Qv hm
    refine TL_trAt 75 (x' := .cp [.int .i64 o75.Stmt.Kind, .int .i64 o75.Stmt.Var, .int .i64 o75.Stmt.Event, .int .i64 o75.Stmt.Sum.Const, .sl 1 (List.map Qf o75.Stmt.Sum.Coeffs), .int .i64 o75.Stmt.Index.Const, .sl 1 (List.map Qf o75.Stmt.Index.Coeffs), .sl 2 (List.map Qq o75.Stmt.Facts), .int .i64 o75.at_, .sl 1 (List.map Qg o75.kids)]) rfl (Xh (QV ho75)) rfl ?_
    refine Qa rfl rfl rfl rfl (Qs rfl rfl) ?_
    refine Qa rfl rfl rfl rfl (Qu (n := 8) fa132_0 rfl rfl rfl) ?_
    refine Qa rfl rfl rfl rfl (Qu (n := 1) fa77_0 rfl rfl rfl) ?_
    refine Qa rfl rfl rfl rfl (Qj ag2 rfl rfl) ?_
    refine Qa rfl rfl rfl rfl (Xq rfl rfl) ?_
    refine Qe ?_
    refine QI rfl (fun hq => ?_) (fun hq => ?_)
    ·replace hm := QO hq hm
     refine Qn ?_
     refine Qc ?_
     refine Qa rfl rfl rfl rfl (Qd rfl) ?_
     refine Qa rfl rfl rfl rfl (Qs rfl rfl) ?_
     refine Qa rfl rfl rfl rfl (Qi fa132_2 rfl rfl) ?_
     refine Qa rfl rfl rfl rfl (Qj ag129 rfl rfl) ?_
     refine Qa rfl rfl rfl rfl (op_indexO el129 rfl rfl rfl hx57) ?_
     refine Qa rfl rfl rfl rfl (op_loadT1 ag88 rfl rfl ((getI_spec hx57).2) rfl rfl) ?_
     refine Qa rfl rfl rfl rfl (Qb rfl) ?_
     refine Qe ?_
     refine Qo [2] [] rfl rfl rfl rfl (by rw [hF]; rfl) ?_
     refine QB ?_
     obtain rfl := Qw hm
     refine ⟨[_], [], ⟨rfl, trivial⟩, ?_, rfl, rfl, rfl, rfl⟩
     rfl
    ·replace hm := QM hq hm
     refine QL ?_
     refine Qn ?_
     refine Qc ?_
     refine Qa rfl rfl rfl rfl (Qd rfl) ?_
     refine Qa rfl rfl rfl rfl (Qb rfl) ?_
     refine Qe ?_
     refine T_freeze 70001 (by rw [hF]; rfl) rfl rfl rfl ?_
     refine T_freezeB 11 (by rw [hF]; rfl) rfl rfl rfl rfl ?_
     refine T_trAt 2 (x' := Qg (re_tree (tree.mk o8.Stmt (0 : Int) u0))) rfl (TrR_fold (re_tree_eq (tree.mk o8.Stmt (0 : Int) u0))) rfl ?_
     refine Qo [2] [] rfl rfl rfl rfl (by rw [hF]; rfl) ?_
     refine QB ?_
     obtain rfl := Qw hm
     refine ⟨[_], [], ⟨rfl, trivial⟩, ?_, rfl, rfl, rfl, rfl⟩
     rfl
  ·replace hm := QM hq hm
   refine Qn ?_
   refine Qc ?_
   refine Qa rfl rfl rfl rfl (Xq rfl rfl) ?_
   refine Qa rfl rfl rfl rfl (Qb rfl) ?_
   refine Qe ?_
   refine QI rfl (fun hq => ?_) (fun hq => ?_)
   ·replace hm := QO hq hm
    refine Qn ?_
    refine Qn ?_
    refine Qc ?_
    refine Qa rfl rfl rfl rfl (Qd rfl) ?_
    refine Qa rfl rfl rfl rfl (Qd rfl) ?_
    refine Xb 8 (fun _ : Unit => ⟨[(3, .ptr 11 0 0), (7, .bool (decide ((o8.Stmt.Sum.Coeffs.length : Int) = (0 : Int)))), (98, .bool ((decide ((o8.Stmt.Sum.Coeffs.length : Int) = (0 : Int))) && (decide (o8.Stmt.Sum.Const < (0 : Int)))))], [(11, .box [.int .i64 o8.Stmt.Kind, .int .i64 o8.Stmt.Var, .int .i64 o8.Stmt.Event, .int .i64 o8.Stmt.Sum.Const, .sl 1 (List.map Qf o8.Stmt.Sum.Coeffs), .int .i64 o8.Stmt.Index.Const, .sl 1 (List.map Qf o8.Stmt.Index.Coeffs), .sl 2 (List.map Qq o8.Stmt.Facts), .int .i64 (0 : Int), .ow 70001]), (70001, .arr ⟨false, false⟩ 1 88 (List.map Qg u0))]⟩) (fun _ => True) (fun _ _ => ?_) (fun hjj => ?_)
    ·refine Qe ?_
     refine QI rfl (fun hq => ?_) (fun hq => ?_)
     ·replace hm := QO hq hm
      refine Qn ?_
      refine Qc ?_
      refine Qa rfl rfl rfl rfl (Qd rfl) ?_
      refine Qa rfl rfl rfl rfl (Qs rfl rfl) ?_
      refine Qa rfl rfl rfl rfl (Qi fa132_2 rfl rfl) ?_
      refine Qa rfl rfl rfl rfl (Qj ag129 rfl rfl) ?_
      obtain ⟨x103, hx103, hm⟩ := Qv hm
      refine Qa rfl rfl rfl rfl (op_indexO el129 rfl rfl rfl hx103) ?_
      refine Qa rfl rfl rfl rfl (op_loadT1 ag88 rfl rfl ((getI_spec hx103).2) rfl rfl) ?_
      refine Qa rfl rfl rfl rfl (Qb rfl) ?_
      refine Qe ?_
      refine Qo [2] [] rfl rfl rfl rfl (by rw [hF]; rfl) ?_
      refine QB ?_
      obtain rfl := Qw hm
      refine ⟨[_], [], ⟨rfl, trivial⟩, ?_, rfl, rfl, rfl, rfl⟩
      rfl
     ·replace hm := QM hq hm
      refine QL ?_
      refine T_join (fun (j0 : Bool) => ⟨[(3, .ptr 11 0 0), (120, .bool j0)], [(11, .box [.int .i64 o8.Stmt.Kind, .int .i64 o8.Stmt.Var, .int .i64 o8.Stmt.Event, .int .i64 o8.Stmt.Sum.Const, .sl 1 (List.map Qf o8.Stmt.Sum.Coeffs), .int .i64 o8.Stmt.Index.Const, .sl 1 (List.map Qf o8.Stmt.Index.Coeffs), .sl 2 (List.map Qq o8.Stmt.Facts), .int .i64 (0 : Int), .ow 70001]), (70001, .arr ⟨false, false⟩ 1 88 (List.map Qg u0))]⟩) (fun j0 => m_impl_tree_simplified_F_J0 o8 u0 j0 = some out) (fun j0 hm => ?_) (fun hj0 => ?_)
      ·unfold m_impl_tree_simplified_F_J0 at hm
       refine QI rfl (fun hq => ?_) (fun hq => ?_)
       ·replace hm := QO hq hm
        refine Qn ?_
        refine Qc ?_
        refine Qa rfl rfl rfl rfl (Qd rfl) ?_
        refine Qa rfl rfl rfl rfl (Qs rfl rfl) ?_
        refine Qa rfl rfl rfl rfl (Qi fa132_2 rfl rfl) ?_
        refine Qa rfl rfl rfl rfl (Qj ag129 rfl rfl) ?_
        obtain ⟨x125, hx125, hm⟩ := Qv hm
        refine Qa rfl rfl rfl rfl (op_indexO el129 rfl rfl rfl hx125) ?_
        refine Qa rfl rfl rfl rfl (op_loadT1 ag88 rfl rfl ((getI_spec hx125).2) rfl rfl) ?_
        refine Qa rfl rfl rfl rfl (Qb rfl) ?_
        refine Qe ?_
        refine Qo [2] [] rfl rfl rfl rfl (by rw [hF]; rfl) ?_
        refine QB ?_
        obtain rfl := Qw hm
        refine ⟨[_], [], ⟨rfl, trivial⟩, ?_, rfl, rfl, rfl, rfl⟩
        rfl
       ·replace hm := QM hq hm
        refine QL ?_
        refine Qn ?_
        refine Qc ?_
        refine Qa rfl rfl rfl rfl (Qd rfl) ?_
        refine Qa rfl rfl rfl rfl (Qb rfl) ?_
        refine Qe ?_
        refine T_freeze 70001 (by rw [hF]; rfl) rfl rfl rfl ?_
        refine T_freezeB 11 (by rw [hF]; rfl) rfl rfl rfl rfl ?_
        refine T_trAt 2 (x' := Qg (re_tree (tree.mk o8.Stmt (0 : Int) u0))) rfl (TrR_fold (re_tree_eq (tree.mk o8.Stmt (0 : Int) u0))) rfl ?_
        refine Qo [2] [] rfl rfl rfl rfl (by rw [hF]; rfl) ?_
        refine QB ?_
        obtain rfl := Qw hm
        refine ⟨[_], [], ⟨rfl, trivial⟩, ?_, rfl, rfl, rfl, rfl⟩
        rfl
      ·refine T_drawZ [] mix (by kernel_rfl) rfl ?_
       refine Ql 0 (by kernel_rfl) rfl rfl rfl rfl rfl (Qd rfl) ?_
       refine Ql 1 (by kernel_rfl) rfl rfl rfl rfl rfl (Qd rfl) ?_
       refine TZ_split 106 rfl rfl rfl (fun hq => ?_) (fun hq => ?_)
       ·replace hm := QO hq hm
        refine Qz 2 (by kernel_rfl) rfl rfl rfl rfl rfl rfl rfl rfl ?_
        refine Qz 3 (by kernel_rfl) rfl rfl rfl rfl rfl rfl rfl rfl ?_
        refine Qz 4 (by kernel_rfl) rfl rfl rfl rfl rfl rfl rfl rfl ?_
        refine Qz 5 (by kernel_rfl) rfl rfl rfl rfl rfl rfl rfl rfl ?_
        refine Qz 6 (by kernel_rfl) rfl rfl rfl rfl rfl rfl rfl rfl ?_
        refine Qz 7 (by kernel_rfl) rfl rfl rfl rfl rfl rfl rfl rfl ?_
        refine Qz 8 (by kernel_rfl) rfl rfl rfl rfl rfl rfl rfl rfl ?_
        refine Qz 9 (by kernel_rfl) rfl rfl rfl rfl rfl rfl rfl rfl ?_
        refine Qz 10 (by kernel_rfl) rfl rfl rfl rfl rfl rfl rfl rfl ?_
        refine Qz 11 (by kernel_rfl) rfl rfl rfl rfl rfl rfl rfl rfl ?_
        refine Qz 12 (by kernel_rfl) rfl rfl rfl rfl rfl rfl rfl rfl ?_
        refine Qz 13 (by kernel_rfl) rfl rfl rfl rfl rfl rfl rfl rfl ?_
        refine QF 14 (by kernel_rfl) rfl ?_
        refine Qh rfl rfl rfl rfl rfl rfl rfl ?_
        refine Qe ?_
        refine Ql 15 (by kernel_rfl) rfl rfl rfl rfl rfl (Qp rfl rfl) ?_
        refine Q8 (by kernel_rfl) ?_
        refine Qo [3, 120] [11, 70001] rfl rfl rfl rfl (by rw [hF]; rfl) ?_
        exact hj0 true hm
       ·replace hm := QM hq hm
        obtain ⟨x111, hx111, hm⟩ := Qv hm
        obtain ⟨x117, hx117, hm⟩ := Qv hm
        obtain ⟨r119, hr119, hm⟩ := Qv hm
        refine Xg 2 (by kernel_rfl) rfl rfl rfl rfl rfl rfl rfl (Qd rfl) ?_
        refine Xg 3 (by kernel_rfl) rfl rfl rfl rfl rfl rfl rfl (Qs rfl rfl) ?_
        refine Xg 4 (by kernel_rfl) rfl rfl rfl rfl rfl rfl rfl (Qi fa132_2 rfl rfl) ?_
        refine Xg 5 (by kernel_rfl) rfl rfl rfl rfl rfl rfl rfl (Qj ag129 rfl rfl) ?_
        refine Xg 6 (by kernel_rfl) rfl rfl rfl rfl rfl rfl rfl (op_indexO el129 rfl rfl rfl hx111) ?_
        refine Xg 7 (by kernel_rfl) rfl rfl rfl rfl rfl rfl rfl (op_loadT1 ag88 rfl rfl ((getI_spec hx111).2) rfl rfl) ?_
        refine Xg 8 (by kernel_rfl) rfl rfl rfl rfl rfl rfl rfl (Qd rfl) ?_
        refine Xg 9 (by kernel_rfl) rfl rfl rfl rfl rfl rfl rfl (Qs rfl rfl) ?_
        refine Xg 10 (by kernel_rfl) rfl rfl rfl rfl rfl rfl rfl (Qi fa132_2 rfl rfl) ?_
        refine Xg 11 (by kernel_rfl) rfl rfl rfl rfl rfl rfl rfl (Qj ag129 rfl rfl) ?_
        refine Xg 12 (by kernel_rfl) rfl rfl rfl rfl rfl rfl rfl (op_indexO el129 rfl rfl rfl hx117) ?_
        refine Xg 13 (by kernel_rfl) rfl rfl rfl rfl rfl rfl rfl (op_loadT1 ag88 rfl rfl ((getI_spec hx117).2) rfl rfl) ?_
        refine QF 14 (by kernel_rfl) rfl ?_
        refine Qm rfl rfl ?_
        refine QG (c_impl_sameTree 1000 x111 x117 r119 hr119) Try.call104 rfl rfl rfl rfl rfl ?_
        refine Qe ?_
        refine Ql 15 (by kernel_rfl) rfl rfl rfl rfl rfl (Qk rfl rfl) ?_
        refine Q8 (by kernel_rfl) ?_
        refine Qo [3, 120] [11, 70001] rfl rfl rfl rfl (by rw [hF]; rfl) ?_
        exact hj0 r119 hm
    ·refine Qy 90 rfl rfl rfl (fun hq => ?_) (fun hq => ?_)
     ·refine Qm rfl rfl ?_
      refine Qa rfl rfl rfl rfl (Qd rfl) ?_
      refine Qm rfl rfl ?_
      refine TL_trAt 91 (x' := .cp [.int .i64 o8.Stmt.Kind, .int .i64 o8.Stmt.Var, .int .i64 o8.Stmt.Event, .int .i64 o8.Stmt.Sum.Const, .sl 1 (List.map Qf o8.Stmt.Sum.Coeffs), .int .i64 o8.Stmt.Index.Const, .sl 1 (List.map Qf o8.Stmt.Index.Coeffs), .sl 2 (List.map Qq o8.Stmt.Facts), .int .i64 o8.at_, .sl 1 (List.map Qg o8.kids)]) rfl (Xh (QV ho8)) rfl ?_
      refine Qa rfl rfl rfl rfl (Qs rfl rfl) ?_
      refine Qm rfl rfl ?_
      refine Qa rfl rfl rfl rfl (Qu (n := 8) fa132_0 rfl rfl rfl) ?_
      refine Qm rfl rfl ?_
      refine Qa rfl rfl rfl rfl (Qu (n := 2) fa77_3 rfl rfl rfl) ?_
      refine Qm rfl rfl ?_
      refine Qa rfl rfl rfl rfl (Qu (n := 1) fa75_0 rfl rfl rfl) ?_
      refine Qm rfl rfl ?_
      refine Qa rfl rfl rfl rfl (Qj ag2 rfl rfl) ?_
      refine Qm rfl rfl ?_
      refine Qa rfl rfl rfl rfl (op_lss rfl rfl) ?_
      refine Qa rfl rfl rfl rfl (Qp rfl rfl) ?_
      refine Qx [3, 7, 98] [11, 70001] rfl rfl rfl rfl (by rw [hF]; rfl) ?_
      exact QA _ (by first | (rw [hq, Bool.true_and]; done) | (rw [hq]; rfl)) (hjj () trivial)
     ·refine Qh rfl rfl rfl rfl rfl rfl rfl ?_
      refine Qh rfl rfl rfl rfl rfl rfl rfl ?_
      refine Qh rfl rfl rfl rfl rfl rfl rfl ?_
      refine Qh rfl rfl rfl rfl rfl rfl rfl ?_
      refine Qh rfl rfl rfl rfl rfl rfl rfl ?_
      refine Qh rfl rfl rfl rfl rfl rfl rfl ?_
      refine Qh rfl rfl rfl rfl rfl rfl rfl ?_
      refine Qa rfl rfl rfl rfl (Qk rfl rfl) ?_
      refine Qx [3, 7, 98] [11, 70001] rfl rfl rfl rfl (by rw [hF]; rfl) ?_
      exact QA _ (by first | (rw [hq, Bool.false_and]; done) | (rw [hq]; rfl)) (hjj () trivial)
   ·replace hm := QM hq hm
    refine Qn ?_
    refine Qc ?_
    refine Qa rfl rfl rfl rfl (Xq rfl rfl) ?_
    refine Qa rfl rfl rfl rfl (Qb rfl) ?_
    refine Qe ?_
    refine QI rfl (fun hq => ?_) (fun hq => ?_)
    ·replace hm := QO hq hm
     refine Qn ?_
     refine Qc ?_
     refine Qa rfl rfl rfl rfl (Qd rfl) ?_
     refine Qa rfl rfl rfl rfl (Qd rfl) ?_
     refine Xb 8 (fun _ : Unit => ⟨[(3, .ptr 11 0 0), (6, .ptr 2892 0 0), (138, .bool ((decide ((o8.Stmt.Sum.Coeffs.length : Int) = (0 : Int))) && (decide (o8.Stmt.Sum.Const < (0 : Int)))))], [(11, .box [.int .i64 o8.Stmt.Kind, .int .i64 o8.Stmt.Var, .int .i64 o8.Stmt.Event, .int .i64 o8.Stmt.Sum.Const, .sl 1 (List.map Qf o8.Stmt.Sum.Coeffs), .int .i64 o8.Stmt.Index.Const, .sl 1 (List.map Qf o8.Stmt.Index.Coeffs), .sl 2 (List.map Qq o8.Stmt.Facts), .int .i64 (0 : Int), .ow 70001]), (2892, .box [.int .i64 (0 : Int), .int .i64 (0 : Int), .int .i64 (0 : Int), .int .i64 (0 : Int), .snil, .int .i64 (0 : Int), .snil, .snil, .int .i64 (0 : Int), .snil]), (70001, .arr ⟨false, false⟩ 1 88 (List.map Qg u0))]⟩) (fun _ => True) (fun _ _ => ?_) (fun hjj => ?_)
     ·refine Qe ?_
      refine QI rfl (fun hq => ?_) (fun hq => ?_)
      ·replace hm := QO hq hm
       refine Qn ?_
       refine Qc ?_
       refine Qa rfl rfl rfl rfl (Qd rfl) ?_
       refine Qa rfl rfl rfl rfl (Qb rfl) ?_
       refine Qe ?_
       refine T_freezeB 2892 (by rw [hF]; rfl) rfl rfl rfl rfl ?_
       refine T_nilAt 2 (x' := .cp [.int .i64 (0 : Int), .int .i64 (0 : Int), .int .i64 (0 : Int), .int .i64 (0 : Int), .sl 1 (List.map Qf ([] : List Int)), .int .i64 (0 : Int), .sl 1 (List.map Qf ([] : List Int)), .sl 2 (List.map Qq ([] : List Term)), .int .i64 (0 : Int), .sl 1 (List.map Qg ([] : List Ptree))]) rfl (⟨_, rfl, ⟨_, _, rfl, rfl, ⟨_, _, rfl, rfl, ⟨_, _, rfl, rfl, ⟨_, _, rfl, rfl, ⟨_, _, rfl, .inr ⟨_, rfl⟩, ⟨_, _, rfl, rfl, ⟨_, _, rfl, .inr ⟨_, rfl⟩, ⟨_, _, rfl, .inr ⟨_, rfl⟩, ⟨_, _, rfl, rfl, ⟨_, _, rfl, .inr ⟨_, rfl⟩, rfl⟩⟩⟩⟩⟩⟩⟩⟩⟩⟩⟩) rfl ?_
       refine T_trAt 2 (x' := Qg (re_tree (tree.mk (Stmt.mk (0 : Int) (0 : Int) (0 : Int) (Term.mk (0 : Int) ([] : List Int)) (Term.mk (0 : Int) ([] : List Int)) ([] : List Term)) (0 : Int) ([] : List Ptree)))) rfl (TrR_fold (re_tree_eq (tree.mk (Stmt.mk (0 : Int) (0 : Int) (0 : Int) (Term.mk (0 : Int) ([] : List Int)) (Term.mk (0 : Int) ([] : List Int)) ([] : List Term)) (0 : Int) ([] : List Ptree)))) rfl ?_
       refine Qo [2] [] rfl rfl rfl rfl (by rw [hF]; rfl) ?_
       refine QB ?_
       obtain rfl := Qw hm
       refine ⟨[_], [], ⟨rfl, trivial⟩, ?_, rfl, rfl, rfl, rfl⟩
       rfl
      ·replace hm := QM hq hm
       refine QL ?_
       refine Qn ?_
       refine Qc ?_
       refine Qa rfl rfl rfl rfl (Qd rfl) ?_
       refine Qa rfl rfl rfl rfl (Qb rfl) ?_
       refine Qe ?_
       refine T_freeze 70001 (by rw [hF]; rfl) rfl rfl rfl ?_
       refine T_freezeB 11 (by rw [hF]; rfl) rfl rfl rfl rfl ?_
       refine T_trAt 2 (x' := Qg (re_tree (tree.mk o8.Stmt (0 : Int) u0))) rfl (TrR_fold (re_tree_eq (tree.mk o8.Stmt (0 : Int) u0))) rfl ?_
       refine Qo [2] [] rfl rfl rfl rfl (by rw [hF]; rfl) ?_
       refine QB ?_
       obtain rfl := Qw hm
       refine ⟨[_], [], ⟨rfl, trivial⟩, ?_, rfl, rfl, rfl, rfl⟩
       rfl
     ·refine Qy 130 rfl rfl rfl (fun hq => ?_) (fun hq => ?_)
      ·refine Qm rfl rfl ?_
       refine Qa rfl rfl rfl rfl (Qd rfl) ?_
       refine Qm rfl rfl ?_
       refine TL_trAt 131 (x' := .cp [.int .i64 o8.Stmt.Kind, .int .i64 o8.Stmt.Var, .int .i64 o8.Stmt.Event, .int .i64 o8.Stmt.Sum.Const, .sl 1 (List.map Qf o8.Stmt.Sum.Coeffs), .int .i64 o8.Stmt.Index.Const, .sl 1 (List.map Qf o8.Stmt.Index.Coeffs), .sl 2 (List.map Qq o8.Stmt.Facts), .int .i64 o8.at_, .sl 1 (List.map Qg o8.kids)]) rfl (Xh (QV ho8)) rfl ?_
       refine Qa rfl rfl rfl rfl (Qs rfl rfl) ?_
       refine Qm rfl rfl ?_
       refine Qa rfl rfl rfl rfl (Qu (n := 8) fa132_0 rfl rfl rfl) ?_
       refine Qm rfl rfl ?_
       refine Qa rfl rfl rfl rfl (Qu (n := 2) fa77_3 rfl rfl rfl) ?_
       refine Qm rfl rfl ?_
       refine Qa rfl rfl rfl rfl (Qu (n := 1) fa75_0 rfl rfl rfl) ?_
       refine Qm rfl rfl ?_
       refine Qa rfl rfl rfl rfl (Qj ag2 rfl rfl) ?_
       refine Qm rfl rfl ?_
       refine Qa rfl rfl rfl rfl (op_lss rfl rfl) ?_
       refine Qa rfl rfl rfl rfl (Qp rfl rfl) ?_
       refine Qx [3, 6, 138] [11, 2892, 70001] rfl rfl rfl rfl (by rw [hF]; rfl) ?_
       exact QA _ (by first | (rw [hq, Bool.true_and]; done) | (rw [hq]; rfl)) (hjj () trivial)
      ·refine Qh rfl rfl rfl rfl rfl rfl rfl ?_
       refine Qh rfl rfl rfl rfl rfl rfl rfl ?_
       refine Qh rfl rfl rfl rfl rfl rfl rfl ?_
       refine Qh rfl rfl rfl rfl rfl rfl rfl ?_
       refine Qh rfl rfl rfl rfl rfl rfl rfl ?_
       refine Qh rfl rfl rfl rfl rfl rfl rfl ?_
       refine Qh rfl rfl rfl rfl rfl rfl rfl ?_
       refine Qa rfl rfl rfl rfl (Qk rfl rfl) ?_
       refine Qx [3, 6, 138] [11, 2892, 70001] rfl rfl rfl rfl (by rw [hF]; rfl) ?_
       exact QA _ (by first | (rw [hq, Bool.false_and]; done) | (rw [hq]; rfl)) (hjj () trivial)
    ·replace hm := QM hq hm
     refine Qn ?_
     refine Qc ?_
     refine Qa rfl rfl rfl rfl (Xq rfl rfl) ?_
     refine Qa rfl rfl rfl rfl (Qb rfl) ?_
     refine Qe ?_
     refine QI rfl (fun hq => ?_) (fun hq => ?_)
     ·replace hm := QO hq hm
      refine Qn ?_
      refine Qc ?_
      refine Qa rfl rfl rfl rfl (Qd rfl) ?_
      refine Qa rfl rfl rfl rfl (Qd rfl) ?_
      refine Xb 8 (fun _ : Unit => ⟨[(3, .ptr 11 0 0), (6, .ptr 2892 0 0), (151, .bool ((decide ((o8.Stmt.Sum.Coeffs.length : Int) = (0 : Int))) && (decide ((0 : Int) ≤ o8.Stmt.Sum.Const))))], [(11, .box [.int .i64 o8.Stmt.Kind, .int .i64 o8.Stmt.Var, .int .i64 o8.Stmt.Event, .int .i64 o8.Stmt.Sum.Const, .sl 1 (List.map Qf o8.Stmt.Sum.Coeffs), .int .i64 o8.Stmt.Index.Const, .sl 1 (List.map Qf o8.Stmt.Index.Coeffs), .sl 2 (List.map Qq o8.Stmt.Facts), .int .i64 (0 : Int), .ow 70001]), (2892, .box [.int .i64 (0 : Int), .int .i64 (0 : Int), .int .i64 (0 : Int), .int .i64 (0 : Int), .snil, .int .i64 (0 : Int), .snil, .snil, .int .i64 (0 : Int), .snil]), (70001, .arr ⟨false, false⟩ 1 88 (List.map Qg u0))]⟩) (fun _ => True) (fun _ _ => ?_) (fun hjj => ?_)
      ·refine Qe ?_
       refine QI rfl (fun hq => ?_) (fun hq => ?_)
       ·replace hm := QO hq hm
        refine Qn ?_
        refine Qc ?_
        refine Qa rfl rfl rfl rfl (Qd rfl) ?_
        refine Qa rfl rfl rfl rfl (Qb rfl) ?_
        refine Qe ?_
        refine T_freezeB 2892 (by rw [hF]; rfl) rfl rfl rfl rfl ?_
        refine T_nilAt 2 (x' := .cp [.int .i64 (0 : Int), .int .i64 (0 : Int), .int .i64 (0 : Int), .int .i64 (0 : Int), .sl 1 (List.map Qf ([] : List Int)), .int .i64 (0 : Int), .sl 1 (List.map Qf ([] : List Int)), .sl 2 (List.map Qq ([] : List Term)), .int .i64 (0 : Int), .sl 1 (List.map Qg ([] : List Ptree))]) rfl (⟨_, rfl, ⟨_, _, rfl, rfl, ⟨_, _, rfl, rfl, ⟨_, _, rfl, rfl, ⟨_, _, rfl, rfl, ⟨_, _, rfl, .inr ⟨_, rfl⟩, ⟨_, _, rfl, rfl, ⟨_, _, rfl, .inr ⟨_, rfl⟩, ⟨_, _, rfl, .inr ⟨_, rfl⟩, ⟨_, _, rfl, rfl, ⟨_, _, rfl, .inr ⟨_, rfl⟩, rfl⟩⟩⟩⟩⟩⟩⟩⟩⟩⟩⟩) rfl ?_
        refine T_trAt 2 (x' := Qg (re_tree (tree.mk (Stmt.mk (0 : Int) (0 : Int) (0 : Int) (Term.mk (0 : Int) ([] : List Int)) (Term.mk (0 : Int) ([] : List Int)) ([] : List Term)) (0 : Int) ([] : List Ptree)))) rfl (TrR_fold (re_tree_eq (tree.mk (Stmt.mk (0 : Int) (0 : Int) (0 : Int) (Term.mk (0 : Int) ([] : List Int)) (Term.mk (0 : Int) ([] : List Int)) ([] : List Term)) (0 : Int) ([] : List Ptree)))) rfl ?_
        refine Qo [2] [] rfl rfl rfl rfl (by rw [hF]; rfl) ?_
        refine QB ?_
        obtain rfl := Qw hm
        refine ⟨[_], [], ⟨rfl, trivial⟩, ?_, rfl, rfl, rfl, rfl⟩
        rfl
       ·replace hm := QM hq hm
        refine QL ?_
        refine Qn ?_
        refine Qc ?_
        refine Qa rfl rfl rfl rfl (Qd rfl) ?_
        refine Qa rfl rfl rfl rfl (Qb rfl) ?_
        refine Qe ?_
        refine T_freeze 70001 (by rw [hF]; rfl) rfl rfl rfl ?_
        refine T_freezeB 11 (by rw [hF]; rfl) rfl rfl rfl rfl ?_
        refine T_trAt 2 (x' := Qg (re_tree (tree.mk o8.Stmt (0 : Int) u0))) rfl (TrR_fold (re_tree_eq (tree.mk o8.Stmt (0 : Int) u0))) rfl ?_
        refine Qo [2] [] rfl rfl rfl rfl (by rw [hF]; rfl) ?_
        refine QB ?_
        obtain rfl := Qw hm
        refine ⟨[_], [], ⟨rfl, trivial⟩, ?_, rfl, rfl, rfl, rfl⟩
        rfl
      ·refine Qy 143 rfl rfl rfl (fun hq => ?_) (fun hq => ?_)
       ·refine Qm rfl rfl ?_
        refine Qa rfl rfl rfl rfl (Qd rfl) ?_
        refine Qm rfl rfl ?_
        refine TL_trAt 144 (x' := .cp [.int .i64 o8.Stmt.Kind, .int .i64 o8.Stmt.Var, .int .i64 o8.Stmt.Event, .int .i64 o8.Stmt.Sum.Const, .sl 1 (List.map Qf o8.Stmt.Sum.Coeffs), .int .i64 o8.Stmt.Index.Const, .sl 1 (List.map Qf o8.Stmt.Index.Coeffs), .sl 2 (List.map Qq o8.Stmt.Facts), .int .i64 o8.at_, .sl 1 (List.map Qg o8.kids)]) rfl (Xh (QV ho8)) rfl ?_
        refine Qa rfl rfl rfl rfl (Qs rfl rfl) ?_
        refine Qm rfl rfl ?_
        refine Qa rfl rfl rfl rfl (Qu (n := 8) fa132_0 rfl rfl rfl) ?_
        refine Qm rfl rfl ?_
        refine Qa rfl rfl rfl rfl (Qu (n := 2) fa77_3 rfl rfl rfl) ?_
        refine Qm rfl rfl ?_
        refine Qa rfl rfl rfl rfl (Qu (n := 1) fa75_0 rfl rfl rfl) ?_
        refine Qm rfl rfl ?_
        refine Qa rfl rfl rfl rfl (Qj ag2 rfl rfl) ?_
        refine Qm rfl rfl ?_
        refine Qa rfl rfl rfl rfl (op_geq rfl rfl) ?_
        refine Qa rfl rfl rfl rfl (Qp rfl rfl) ?_
        refine Qx [3, 6, 151] [11, 2892, 70001] rfl rfl rfl rfl (by rw [hF]; rfl) ?_
        exact QA _ (by first | (rw [hq, Bool.true_and]; done) | (rw [hq]; rfl)) (hjj () trivial)
       ·refine Qh rfl rfl rfl rfl rfl rfl rfl ?_
        refine Qh rfl rfl rfl rfl rfl rfl rfl ?_
        refine Qh rfl rfl rfl rfl rfl rfl rfl ?_
        refine Qh rfl rfl rfl rfl rfl rfl rfl ?_
        refine Qh rfl rfl rfl rfl rfl rfl rfl ?_
        refine Qh rfl rfl rfl rfl rfl rfl rfl ?_
        refine Qh rfl rfl rfl rfl rfl rfl rfl ?_
        refine Qa rfl rfl rfl rfl (Qk rfl rfl) ?_
        refine Qx [3, 6, 151] [11, 2892, 70001] rfl rfl rfl rfl (by rw [hF]; rfl) ?_
        exact QA _ (by first | (rw [hq, Bool.false_and]; done) | (rw [hq]; rfl)) (hjj () trivial)
     ·replace hm := QM hq hm
      refine Qn ?_
      refine Qc ?_
      refine Qa rfl rfl rfl rfl (Xq rfl rfl) ?_
      refine Qa rfl rfl rfl rfl (Qb rfl) ?_
      refine Qe ?_
      refine QI rfl (fun hq => ?_) (fun hq => ?_)
      ·replace hm := QO hq hm
       refine Qn ?_
       refine T_drawZ [] mix (by kernel_rfl) rfl ?_
       obtain ⟨r165, hr165, hm⟩ := Qv hm
       refine Ql 0 (by kernel_rfl) rfl rfl rfl rfl rfl (Qd rfl) ?_
       refine TZ_trAt 155 (x' := .cp [.int .i64 o8.Stmt.Kind, .int .i64 o8.Stmt.Var, .int .i64 o8.Stmt.Event, .int .i64 o8.Stmt.Sum.Const, .sl 1 (List.map Qf o8.Stmt.Sum.Coeffs), .int .i64 o8.Stmt.Index.Const, .sl 1 (List.map Qf o8.Stmt.Index.Coeffs), .sl 2 (List.map Qq o8.Stmt.Facts), .int .i64 o8.at_, .sl 1 (List.map Qg o8.kids)]) rfl (Xh (QV ho8)) rfl ?_
       refine Ql 1 (by kernel_rfl) rfl rfl rfl rfl rfl (Qs rfl rfl) ?_
       refine Ql 2 (by kernel_rfl) rfl rfl rfl rfl rfl (Qu (n := 8) fa132_0 rfl rfl rfl) ?_
       refine Ql 3 (by kernel_rfl) rfl rfl rfl rfl rfl (Qu (n := 2) fa77_3 rfl rfl rfl) ?_
       refine Ql 4 (by kernel_rfl) rfl rfl rfl rfl rfl (Qt ag75 sz75 rfl rfl rfl) ?_
       refine Ql 5 (by kernel_rfl) rfl rfl rfl rfl rfl (Qd rfl) ?_
       refine TZ_trAt 160 (x' := .cp [.int .i64 o8.Stmt.Kind, .int .i64 o8.Stmt.Var, .int .i64 o8.Stmt.Event, .int .i64 o8.Stmt.Sum.Const, .sl 1 (List.map Qf o8.Stmt.Sum.Coeffs), .int .i64 o8.Stmt.Index.Const, .sl 1 (List.map Qf o8.Stmt.Index.Coeffs), .sl 2 (List.map Qq o8.Stmt.Facts), .int .i64 o8.at_, .sl 1 (List.map Qg o8.kids)]) rfl (Xh (QV ho8)) rfl ?_
       refine Ql 6 (by kernel_rfl) rfl rfl rfl rfl rfl (Qs rfl rfl) ?_
       refine Ql 7 (by kernel_rfl) rfl rfl rfl rfl rfl (Qu (n := 8) fa132_0 rfl rfl rfl) ?_
       refine Ql 8 (by kernel_rfl) rfl rfl rfl rfl rfl (Qu (n := 1) fa77_1 rfl rfl rfl) ?_
       refine Ql 9 (by kernel_rfl) rfl rfl rfl rfl rfl (Qj ag2 rfl rfl) ?_
       refine QF 10 (by kernel_rfl) rfl ?_
       refine QG (c_impl_Term_isVariable o8.Stmt.Sum o8.Stmt.Var r165 hr165) Try.call105 rfl rfl rfl rfl rfl ?_
       refine Qe ?_
       refine Q8 (by kernel_rfl) ?_
       refine QI rfl (fun hq => ?_) (fun hq => ?_)
       ·replace hm := QO hq hm
        refine Qn ?_
        refine Qc ?_
        refine Qa rfl rfl rfl rfl (Qd rfl) ?_
        refine Qa rfl rfl rfl rfl (Qb rfl) ?_
        refine Qe ?_
        refine T_freezeB 2892 (by rw [hF]; rfl) rfl rfl rfl rfl ?_
        refine T_nilAt 2 (x' := .cp [.int .i64 (0 : Int), .int .i64 (0 : Int), .int .i64 (0 : Int), .int .i64 (0 : Int), .sl 1 (List.map Qf ([] : List Int)), .int .i64 (0 : Int), .sl 1 (List.map Qf ([] : List Int)), .sl 2 (List.map Qq ([] : List Term)), .int .i64 (0 : Int), .sl 1 (List.map Qg ([] : List Ptree))]) rfl (⟨_, rfl, ⟨_, _, rfl, rfl, ⟨_, _, rfl, rfl, ⟨_, _, rfl, rfl, ⟨_, _, rfl, rfl, ⟨_, _, rfl, .inr ⟨_, rfl⟩, ⟨_, _, rfl, rfl, ⟨_, _, rfl, .inr ⟨_, rfl⟩, ⟨_, _, rfl, .inr ⟨_, rfl⟩, ⟨_, _, rfl, rfl, ⟨_, _, rfl, .inr ⟨_, rfl⟩, rfl⟩⟩⟩⟩⟩⟩⟩⟩⟩⟩⟩) rfl ?_
        refine T_trAt 2 (x' := Qg (re_tree (tree.mk (Stmt.mk (0 : Int) (0 : Int) (0 : Int) (Term.mk (0 : Int) ([] : List Int)) (Term.mk (0 : Int) ([] : List Int)) ([] : List Term)) (0 : Int) ([] : List Ptree)))) rfl (TrR_fold (re_tree_eq (tree.mk (Stmt.mk (0 : Int) (0 : Int) (0 : Int) (Term.mk (0 : Int) ([] : List Int)) (Term.mk (0 : Int) ([] : List Int)) ([] : List Term)) (0 : Int) ([] : List Ptree)))) rfl ?_
        refine Qo [2] [] rfl rfl rfl rfl (by rw [hF]; rfl) ?_
        refine QB ?_
        obtain rfl := Qw hm
        refine ⟨[_], [], ⟨rfl, trivial⟩, ?_, rfl, rfl, rfl, rfl⟩
        rfl
       ·replace hm := QM hq hm
        refine QL ?_
        refine Qn ?_
        refine Qc ?_
        refine Qa rfl rfl rfl rfl (Qd rfl) ?_
        refine Qa rfl rfl rfl rfl (Qb rfl) ?_
        refine Qe ?_
        refine T_freeze 70001 (by rw [hF]; rfl) rfl rfl rfl ?_
        refine T_freezeB 11 (by rw [hF]; rfl) rfl rfl rfl rfl ?_
        refine T_trAt 2 (x' := Qg (re_tree (tree.mk o8.Stmt (0 : Int) u0))) rfl (TrR_fold (re_tree_eq (tree.mk o8.Stmt (0 : Int) u0))) rfl ?_
        refine Qo [2] [] rfl rfl rfl rfl (by rw [hF]; rfl) ?_
        refine QB ?_
        obtain rfl := Qw hm
        refine ⟨[_], [], ⟨rfl, trivial⟩, ?_, rfl, rfl, rfl, rfl⟩
        rfl
      ·replace hm := QM hq hm
       refine QL ?_
       refine Qn ?_
       refine Qc ?_
       refine Qa rfl rfl rfl rfl (Qd rfl) ?_
       refine Qa rfl rfl rfl rfl (Qb rfl) ?_
       refine Qe ?_
       refine T_freeze 70001 (by rw [hF]; rfl) rfl rfl rfl ?_
       refine T_freezeB 11 (by rw [hF]; rfl) rfl rfl rfl rfl ?_
       refine T_trAt 2 (x' := Qg (re_tree (tree.mk o8.Stmt (0 : Int) u0))) rfl (TrR_fold (re_tree_eq (tree.mk o8.Stmt (0 : Int) u0))) rfl ?_
       refine Qo [2] [] rfl rfl rfl rfl (by rw [hF]; rfl) ?_
       refine QB ?_
       obtain rfl := Qw hm
       refine ⟨[_], [], ⟨rfl, trivial⟩, ?_, rfl, rfl, rfl, rfl⟩
       rfl
 ·refine Qn ?_
  refine Qc ?_
  refine Qa rfl rfl rfl rfl (op_lss rfl rfl) ?_
  refine Qe ?_
  refine Qn ?_
  refine T_if_false rfl (decide_eq_false (by simp)) ?_
  refine Qo [0, 3] [11, 70001] rfl rfl rfl rfl (by rw [hF]; rfl) ?_
  refine T_exit ?_
  exact hx0 s0 hm
 ·unfold Xp at hm
  refine Qn ?_
  refine Qc ?_
  refine Qa rfl rfl rfl rfl (op_lss rfl rfl) ?_
  refine Qe ?_
  refine Qn ?_
  refine T_if_true rfl (decide_eq_true (Int.ofNat_lt.2 hlt0)) ?_
  refine QL ?_
  refine Qn ?_
  refine Xd ?_
  refine Qn ?_
  refine Qc ?_
  refine Qa rfl rfl rfl rfl (op_index_sl el129 rfl rfl rfl (get_map hxn0) rfl) ?_
  refine Qa rfl rfl rfl rfl (Qj ag88 rfl rfl) ?_
  refine Qa rfl rfl rfl rfl (Qb rfl) ?_
  refine Qe ?_
  refine T_drawZ [7, 8, 11] mix (by kernel_rfl) rfl ?_
  obtain ⟨r29, hr29, hm⟩ := Qv hm
  obtain ⟨q31, hq31, hm⟩ := Qv hm
  refine Ql 0 (by kernel_rfl) rfl rfl rfl rfl rfl (Qd rfl) ?_
  refine Ql 1 (by kernel_rfl) rfl rfl rfl rfl rfl (Qd rfl) ?_
  refine Ql 2 (by kernel_rfl) rfl rfl rfl rfl rfl (Qs rfl rfl) ?_
  refine Ql 3 (by kernel_rfl) rfl rfl rfl rfl rfl (Qi fa132_2 rfl rfl) ?_
  refine Ql 5 (by kernel_rfl) rfl rfl rfl rfl rfl (Qd rfl) ?_
  refine XD 6 [true, true, true, true, true, true, false, false, false, false, false, false] ⟨[(0, Qg p0), (3, .ptr 11 0 0), (5, Qg x0), (17, .sl 1 (List.map Qg o8.kids)), (18, .int .i64 (o8.kids.length : Int)), (19, .int .i64 (n0 : Int)), (20, .bool (decide ((n0 : Int) < (o8.kids.length : Int)))), (21, .cp [Qg x0]), (22, Qg x0), (23, .ptr 11 0 0), (24, .ptr 11 0 0), (25, .ptr 11 0 0), (26, .ptr 11 0 9), (27, .ow 70001), (28, Qg x0)], [(11, .box [.int .i64 o8.Stmt.Kind, .int .i64 o8.Stmt.Var, .int .i64 o8.Stmt.Event, .int .i64 o8.Stmt.Sum.Const, .sl 1 (List.map Qf o8.Stmt.Sum.Coeffs), .int .i64 o8.Stmt.Index.Const, .sl 1 (List.map Qf o8.Stmt.Index.Coeffs), .sl 2 (List.map Qq o8.Stmt.Facts), .int .i64 (0 : Int), .ow 70001]), (70001, .arr ⟨false, false⟩ 1 88 (List.map Qg s0))]⟩ ?_ (fun hS1931_0 => ?_)
  ·refine QF 6 (by kernel_rfl) rfl ?_
   refine TL_callT (hrec_impl_tree_simplified x0 r29 hr29) Try.call69 rfl rfl rfl rfl rfl ?_
   refine Qe ?_
   refine QF 7 (by kernel_rfl) rfl ?_
   refine QD 2572 (es := List.map Qg [r29]) el129 z88 rfl rfl rfl rfl rfl rfl rfl rfl rfl ?_
   refine Qe ?_
   refine QF 8 (by kernel_rfl) rfl ?_
   refine Xc (f := Qg) (a := s0) (b := [r29]) el129 z88 rfl rfl rfl rfl rfl rfl rfl (Xa hq31) rfl rfl rfl rfl rfl ?_
   refine Qe ?_
   refine Ql 9 (by kernel_rfl) rfl rfl rfl rfl rfl (Qs rfl rfl) ?_
   refine Ql 10 (by kernel_rfl) rfl rfl rfl rfl rfl (Qi fa132_2 rfl rfl) ?_
   refine QF 11 (by kernel_rfl) rfl ?_
   refine Qr sz129 rfl rfl rfl rfl rfl rfl rfl rfl rfl ?_
   refine Qe ?_
   refine Q8 (by kernel_rfl) ?_
   refine Qc ?_
   refine Qa rfl rfl rfl rfl (op_addN rfl rfl (Nat.lt_of_lt_of_le hlt0 hlen18)) ?_
   refine Qa rfl rfl rfl rfl (Qd rfl) ?_
   refine Qe ?_
   refine Xw [0, 3, 17, 18, 19] [11, 70001] rfl rfl rfl rfl (by rw [hF]; rfl) ?_
   obtain rfl := Qw hm
   have hn := Q7 hc0
   exact hn _ rfl
  refine XD 5 [true, true, true, true, true, true, true, false, false, false, false, false] ⟨[(0, Qg p0), (3, .ptr 11 0 0), (5, Qg x0), (17, .sl 1 (List.map Qg o8.kids)), (18, .int .i64 (o8.kids.length : Int)), (19, .int .i64 (n0 : Int)), (20, .bool (decide ((n0 : Int) < (o8.kids.length : Int)))), (21, .cp [Qg x0]), (22, Qg x0), (23, .ptr 11 0 0), (24, .ptr 11 0 0), (25, .ptr 11 0 0), (26, .ptr 11 0 9), (27, .ow 70001), (28, Qg x0), (29, Qg r29)], [(11, .box [.int .i64 o8.Stmt.Kind, .int .i64 o8.Stmt.Var, .int .i64 o8.Stmt.Event, .int .i64 o8.Stmt.Sum.Const, .sl 1 (List.map Qf o8.Stmt.Sum.Coeffs), .int .i64 o8.Stmt.Index.Const, .sl 1 (List.map Qf o8.Stmt.Index.Coeffs), .sl 2 (List.map Qq o8.Stmt.Facts), .int .i64 (0 : Int), .ow 70001]), (70001, .arr ⟨false, false⟩ 1 88 (List.map Qg s0))]⟩ ?_ (fun hS1931_1 => ?_)
  ·refine QF 7 (by kernel_rfl) rfl ?_
   refine QD 2572 (es := List.map Qg [r29]) el129 z88 rfl rfl rfl rfl rfl rfl rfl rfl rfl ?_
   refine Qe ?_
   refine QF 8 (by kernel_rfl) rfl ?_
   refine Xc (f := Qg) (a := s0) (b := [r29]) el129 z88 rfl rfl rfl rfl rfl rfl rfl (Xa hq31) rfl rfl rfl rfl rfl ?_
   refine Qe ?_
   refine Ql 9 (by kernel_rfl) rfl rfl rfl rfl rfl (Qs rfl rfl) ?_
   refine Ql 10 (by kernel_rfl) rfl rfl rfl rfl rfl (Qi fa132_2 rfl rfl) ?_
   refine QF 11 (by kernel_rfl) rfl ?_
   refine Qr sz129 rfl rfl rfl rfl rfl rfl rfl rfl rfl ?_
   refine Qe ?_
   refine Q8 (by kernel_rfl) ?_
   refine Qc ?_
   refine Qa rfl rfl rfl rfl (op_addN rfl rfl (Nat.lt_of_lt_of_le hlt0 hlen18)) ?_
   refine Qa rfl rfl rfl rfl (Qd rfl) ?_
   refine Qe ?_
   refine Xw [0, 3, 17, 18, 19] [11, 70001] rfl rfl rfl rfl (by rw [hF]; rfl) ?_
   obtain rfl := Qw hm
   have hn := Q7 hc0
   exact hn _ rfl
  refine XD 5 [true, true, true, true, false, true, true, true, false, false, false, false] ⟨[(0, Qg p0), (3, .ptr 11 0 0), (5, Qg x0), (17, .sl 1 (List.map Qg o8.kids)), (18, .int .i64 (o8.kids.length : Int)), (19, .int .i64 (n0 : Int)), (20, .bool (decide ((n0 : Int) < (o8.kids.length : Int)))), (21, .cp [Qg x0]), (22, Qg x0), (23, .ptr 11 0 0), (24, .ptr 11 0 0), (25, .ptr 11 0 0), (26, .ptr 11 0 9), (28, Qg x0), (29, Qg r29), (30, .ow 2572)], [(11, .box [.int .i64 o8.Stmt.Kind, .int .i64 o8.Stmt.Var, .int .i64 o8.Stmt.Event, .int .i64 o8.Stmt.Sum.Const, .sl 1 (List.map Qf o8.Stmt.Sum.Coeffs), .int .i64 o8.Stmt.Index.Const, .sl 1 (List.map Qf o8.Stmt.Index.Coeffs), .sl 2 (List.map Qq o8.Stmt.Facts), .int .i64 (0 : Int), .ow 70001]), (2572, .arr ⟨false, false⟩ 1 88 (List.map Qg [r29])), (70001, .arr ⟨false, false⟩ 1 88 (List.map Qg s0))]⟩ ?_ (fun hS1931_2 => ?_)
  ·refine Ql 4 (by kernel_rfl) rfl rfl rfl rfl rfl (Qj ag129 rfl rfl) ?_
   refine QF 8 (by kernel_rfl) rfl ?_
   refine Xc (f := Qg) (a := s0) (b := [r29]) el129 z88 rfl rfl rfl rfl rfl rfl rfl (Xa hq31) rfl rfl rfl rfl rfl ?_
   refine Qe ?_
   refine Ql 9 (by kernel_rfl) rfl rfl rfl rfl rfl (Qs rfl rfl) ?_
   refine Ql 10 (by kernel_rfl) rfl rfl rfl rfl rfl (Qi fa132_2 rfl rfl) ?_
   refine QF 11 (by kernel_rfl) rfl ?_
   refine Qr sz129 rfl rfl rfl rfl rfl rfl rfl rfl rfl ?_
   refine Qe ?_
   refine Q8 (by kernel_rfl) ?_
   refine Qc ?_
   refine Qa rfl rfl rfl rfl (op_addN rfl rfl (Nat.lt_of_lt_of_le hlt0 hlen18)) ?_
   refine Qa rfl rfl rfl rfl (Qd rfl) ?_
   refine Qe ?_
   refine Xw [0, 3, 17, 18, 19] [11, 70001] rfl rfl rfl rfl (by rw [hF]; rfl) ?_
   obtain rfl := Qw hm
   have hn := Q7 hc0
   exact hn _ rfl
  refine XD 6 [true, true, true, true, false, true, true, false, false, false, false, false] ⟨[(0, Qg p0), (3, .ptr 11 0 0), (5, Qg x0), (17, .sl 1 (List.map Qg o8.kids)), (18, .int .i64 (o8.kids.length : Int)), (19, .int .i64 (n0 : Int)), (20, .bool (decide ((n0 : Int) < (o8.kids.length : Int)))), (21, .cp [Qg x0]), (22, Qg x0), (23, .ptr 11 0 0), (24, .ptr 11 0 0), (25, .ptr 11 0 0), (26, .ptr 11 0 9), (28, Qg x0), (29, Qg r29)], [(11, .box [.int .i64 o8.Stmt.Kind, .int .i64 o8.Stmt.Var, .int .i64 o8.Stmt.Event, .int .i64 o8.Stmt.Sum.Const, .sl 1 (List.map Qf o8.Stmt.Sum.Coeffs), .int .i64 o8.Stmt.Index.Const, .sl 1 (List.map Qf o8.Stmt.Index.Coeffs), .sl 2 (List.map Qq o8.Stmt.Facts), .int .i64 (0 : Int), .ow 70001]), (70001, .arr ⟨false, false⟩ 1 88 (List.map Qg s0))]⟩ ?_ (fun hS1931_3 => ?_)
  ·refine TZ_each [4, 7] (by kernel_rfl) rfl ?_
   refine ⟨?_, ?_⟩
   ·refine ⟨_, rfl, ?_⟩
    refine Qa rfl rfl rfl rfl (Qj ag129 rfl rfl) ?_
    refine Qe ?_
    refine QU [0, 3, 5, 17, 18, 19, 20, 21, 22, 23, 24, 25, 26, 27, 28, 29] [11, 70001] rfl rfl rfl rfl (by rw [hF]; rfl) ?_
    exact hS1931_1
   ·refine ⟨_, rfl, ?_⟩
    refine QD 2572 (es := List.map Qg [r29]) el129 z88 rfl rfl rfl rfl rfl rfl rfl rfl rfl ?_
    refine Qe ?_
    refine QU [0, 3, 5, 17, 18, 19, 20, 21, 22, 23, 24, 25, 26, 28, 29, 30] [11, 2572, 70001] rfl rfl rfl rfl (by rw [hF]; rfl) ?_
    exact hS1931_2
  refine TZ_each [4, 6] (by kernel_rfl) rfl ?_
  refine ⟨?_, ?_⟩
  ·refine ⟨_, rfl, ?_⟩
   refine Qa rfl rfl rfl rfl (Qj ag129 rfl rfl) ?_
   refine Qe ?_
   refine QU [0, 3, 5, 17, 18, 19, 20, 21, 22, 23, 24, 25, 26, 27, 28] [11, 70001] rfl rfl rfl rfl (by rw [hF]; rfl) ?_
   exact hS1931_0
  ·refine ⟨_, rfl, ?_⟩
   refine TL_callT (hrec_impl_tree_simplified x0 r29 hr29) Try.call69 rfl rfl rfl rfl rfl ?_
   refine Qe ?_
   refine QU [0, 3, 5, 17, 18, 19, 20, 21, 22, 23, 24, 25, 26, 28, 29] [11, 70001] rfl rfl rfl rfl (by rw [hF]; rfl) ?_
   exact hS1931_3
theorem c_impl_tree_simplified : ∀ (n : Nat) (p0 : Ptree) (out : Ptree), XH n p0 = some out → ACall Try.prog 69 [Qg p0] [] (Qg out) [] := by
 intro n
 induction n with
 | zero => intro p0 out hm; cases hm
 | succ n ih => intro p0 out hm; exact c_impl_tree_simplified_F (XH n) ih p0 out hm
theorem c_impl_copyInts (p0 : List Int) (out : List Int) (hm : m_impl_copyInts p0 = some out) : ACall Try.prog 116 [.sl 1 (List.map Qf p0)] [] (.ow 1000) [(1000, .arr ⟨false, true⟩ 1 2 (List.map Qf out))] := by
 refine ACall.intro Try.func116 rfl Try.ntmps116 rfl (fun F hF => ?_)
 unfold m_impl_copyInts at hm
 refine Qn ?_
 refine Qc ?_
 refine Qa rfl rfl rfl rfl (Qb rfl) ?_
 refine Qe ?_
 refine Qn ?_
 refine Qc ?_
 refine QD 11 (es := List.map Qf ([] : List Int)) el29 z2 rfl rfl rfl rfl rfl rfl rfl rfl rfl ?_
 refine Qa rfl rfl rfl rfl (Qd rfl) ?_
 obtain ⟨q5, hq5, hm⟩ := Qv hm
 refine Xc (f := Qf) (a := ([] : List Int)) (b := p0) el29 z2 rfl rfl rfl rfl rfl rfl rfl (Xa hq5) rfl rfl rfl rfl rfl ?_
 refine Qa rfl rfl rfl rfl (Qb rfl) ?_
 refine Qe ?_
 refine Qo [2] [11] rfl rfl rfl rfl (by rw [hF]; rfl) ?_
 refine T_deepen 11 (p' := false) (List.map Qf (([] : List Int) ++ p0)) (by rw [hF]; rfl) rfl (ElR.map (f := Qf) (g := Qf) (fun _ => ⟨⟨rfl, rfl⟩, trivial⟩) (([] : List Int) ++ p0)) rfl rfl rfl ?_
 refine T_ren [(11, 1000)] rfl rfl rfl (by rw [hF]; rfl) ?_
 refine QB ?_
 obtain rfl := Qw hm
 refine ⟨[_], [1000], ⟨rfl, trivial⟩, ?_, rfl, rfl, rfl, rfl⟩
 rfl
theorem c_impl_Term_own (p0 : Term) (out : Term) (hm : m_impl_Term_own p0 = some out) : ACall Try.prog 87 [.agg [.int .i64 p0.Const, .sl 1 (List.map Qf p0.Coeffs)]] [] (.agg [.int .i64 out.Const, .ow 1000]) [(1000, .arr ⟨false, true⟩ 1 2 (List.map Qf out.Coeffs))] := by
 refine ACall.intro Try.func87 rfl Try.ntmps87 rfl (fun F hF => ?_)
 unfold m_impl_Term_own at hm
 refine Qn ?_
 refine Qc ?_
 refine TL_box 11 rfl rfl rfl rfl rfl rfl rfl ?_
 refine Xk 12 z75 rfl rfl rfl rfl rfl rfl rfl ?_
 refine Qe ?_
 refine Qn ?_
 refine T_drawZ [6] mix (by kernel_rfl) rfl ?_
 obtain ⟨r7, hr7, hm⟩ := Qv hm
 refine Ql 0 (by kernel_rfl) rfl rfl rfl rfl rfl (Qi fa75_0 rfl rfl) ?_
 refine Ql 1 (by kernel_rfl) rfl rfl rfl rfl rfl (Qj ag2 rfl rfl) ?_
 refine Ql 2 (by kernel_rfl) rfl rfl rfl rfl rfl (Qi fa75_1 rfl rfl) ?_
 refine Ql 3 (by kernel_rfl) rfl rfl rfl rfl rfl (Qj ag29 rfl rfl) ?_
 refine QF 4 (by kernel_rfl) rfl ?_
 refine TL_callO [(1000, 14)] (c_impl_copyInts p0.Coeffs r7 hr7) Try.call116 rfl rfl rfl rfl rfl rfl rfl rfl rfl rfl rfl rfl rfl ?_
 refine Qe ?_
 refine Ql 5 (by kernel_rfl) rfl rfl rfl rfl rfl (Xn pl75 z75 rfl rfl rfl rfl rfl) ?_
 refine QF 6 (by kernel_rfl) rfl ?_
 refine Qr sz75 rfl rfl rfl rfl rfl rfl rfl rfl rfl ?_
 refine Qe ?_
 refine Q8 (by kernel_rfl) ?_
 refine Qo [2] [12, 14] rfl rfl rfl rfl (by rw [hF]; rfl) ?_
 refine T_ren [(12, 12), (14, 1000)] rfl rfl rfl (by rw [hF]; rfl) ?_
 refine QB ?_
 obtain rfl := Qw hm
 refine ⟨[_], [1000], ⟨⟨_, _, rfl, rfl, .inr ⟨ag75, _, _, sz75, rfl, rfl⟩⟩, trivial⟩, ?_, rfl, rfl, rfl, rfl⟩
 rfl
theorem c_impl_ownTerms (p0 : List Term) (out : List Term) (hm : m_impl_ownTerms p0 = some out) : ACall Try.prog 48 [.sl 2 (List.map Qq p0)] [] (.ow 1000) [(1000, .arr ⟨false, true⟩ 2 75 (List.map Qq out))] := by
 refine ACall.intro Try.func48 rfl Try.ntmps48 rfl (fun F hF => ?_)
 unfold m_impl_ownTerms at hm
 refine Qn ?_
 refine Qc ?_
 refine Qa rfl rfl rfl rfl (Qb rfl) ?_
 refine Qe ?_
 refine Qn ?_
 refine Qc ?_
 refine Qa rfl rfl rfl rfl (Qb rfl) ?_
 refine Qe ?_
 refine Qn ?_
 refine Qn ?_
 refine Qc ?_
 refine Qa rfl rfl rfl rfl (Qd rfl) ?_
 refine Qa rfl rfl rfl rfl (Xm Try.underlying24 rfl (List.length_map _)) ?_
 refine Xy (fun _ _ _ hr => RelP.slLen (i := 6) rfl hr) (fun hlen7 => ?_)
 rw [List.length_map] at hlen7
 refine Qa rfl rfl rfl rfl (Qd rfl) ?_
 refine Qe ?_
 refine Xd ?_
 refine T_ownNil 3 21 ⟨false, true⟩ 75 rfl rfl (sz := 2) rfl rfl rfl ?_
 refine Qo [3, 6, 7, 8] [21] rfl rfl rfl rfl (by rw [hF]; rfl) ?_
 refine T_ren [(21, 70000)] rfl rfl rfl (by rw [hF]; rfl) ?_
 refine T_loop ?_
 obtain ⟨u0, hl0, hm⟩ := Qv hm
 refine TR_forL2 p0 (m_impl_ownTerms_L0) (fun (s0 : List Term) => s0) (fun n0 (s0 : List Term) => ⟨[(3, .ow 70000), (6, .sl 2 (List.map Qq p0)), (7, .int .i64 (p0.length : Int)), (8, .int .i64 (n0 : Int))], [(70000, .arr ⟨false, true⟩ 2 75 (List.map Qq s0))]⟩) (fun u0 => .exit 0) (fun u0 => ⟨[(3, .ow 70000)], [(70000, .arr ⟨false, true⟩ 2 75 (List.map Qq u0))]⟩) (fun u0 => m_impl_ownTerms_A0 u0 = some out) hl0 hm (fun u0 hm => ?_) (fun hx0 s0 hm => ?_) (fun hx0 n0 x0 s0 c0 hxn0 hlt0 hm hc0 => ?_)
 ·unfold m_impl_ownTerms_A0 at hm
  refine Qn ?_
  refine Qc ?_
  refine Qa rfl rfl rfl rfl (Qd rfl) ?_
  refine Qa rfl rfl rfl rfl (Qb rfl) ?_
  refine Qe ?_
  refine Qo [2] [70000] rfl rfl rfl rfl (by rw [hF]; rfl) ?_
  refine T_ren [(70000, 1000)] rfl rfl rfl (by rw [hF]; rfl) ?_
  refine QB ?_
  obtain rfl := Qw hm
  refine ⟨[_], [1000], ⟨rfl, trivial⟩, ?_, rfl, rfl, rfl, rfl⟩
  rfl
 ·refine Qn ?_
  refine Qc ?_
  refine Qa rfl rfl rfl rfl (op_lss rfl rfl) ?_
  refine Qe ?_
  refine Qn ?_
  refine T_if_false rfl (decide_eq_false (by simp)) ?_
  refine Qo [3] [70000] rfl rfl rfl rfl (by rw [hF]; rfl) ?_
  refine T_exit ?_
  exact hx0 s0 hm
 ·unfold m_impl_ownTerms_L0 at hm
  refine Qn ?_
  refine Qc ?_
  refine Qa rfl rfl rfl rfl (op_lss rfl rfl) ?_
  refine Qe ?_
  refine Qn ?_
  refine T_if_true rfl (decide_eq_true (Int.ofNat_lt.2 hlt0)) ?_
  refine QL ?_
  refine Qn ?_
  refine Xd ?_
  refine Qn ?_
  refine Qc ?_
  refine Qa rfl rfl rfl rfl (op_index_sl el24 rfl rfl rfl (get_map hxn0) rfl) ?_
  refine Qa rfl rfl rfl rfl (Qt ag75 sz75 rfl rfl rfl) ?_
  refine Xk 18 z75 rfl rfl rfl rfl rfl rfl rfl ?_
  refine Qr sz75 rfl rfl rfl rfl rfl rfl rfl rfl rfl ?_
  refine Qe ?_
  refine Qc ?_
  refine Qa rfl rfl rfl rfl (Qd rfl) ?_
  refine Qa rfl rfl rfl rfl (Qt ag75 sz75 rfl rfl rfl) ?_
  obtain ⟨r14, hr14, hm⟩ := Qv hm
  refine TL_callO [(1000, 19)] (c_impl_Term_own x0 r14 hr14) Try.call87 rfl rfl rfl rfl rfl rfl rfl rfl rfl rfl rfl rfl rfl ?_
  refine TL_buildSliceD (ids := [19]) (es := List.map Qq [r14]) 20 el24 z75 rfl rfl rfl rfl rfl rfl (by rw [hF]; intro j hj; simp only [List.mem_cons, List.not_mem_nil, or_false] at hj; rcases hj with rfl <;> rfl) rfl rfl rfl rfl rfl rfl ?_
  obtain ⟨q16, hq16, hm⟩ := Qv hm
  refine TL_appendDT (f := Qq) (a := s0) (b := [r14]) el24 z75 rfl rfl rfl rfl rfl rfl rfl rfl (by rw [hF]; rfl) (Xa hq16) rfl rfl rfl rfl rfl ?_
  refine Qa rfl rfl rfl rfl (Qb rfl) ?_
  refine Qe ?_
  refine Qc ?_
  refine Qa rfl rfl rfl rfl (op_addN rfl rfl (Nat.lt_of_lt_of_le hlt0 hlen7)) ?_
  refine Qa rfl rfl rfl rfl (Qd rfl) ?_
  refine Qe ?_
  refine Xw [3, 6, 7, 8] [70000] rfl rfl rfl rfl (by rw [hF]; rfl) ?_
  obtain rfl := Qw hm
  have hn := Q7 hc0
  exact hn _ rfl
theorem c_impl_ownStmt (p0 : Stmt) (out : Stmt) (hm : m_impl_ownStmt p0 = some out) : ACall Try.prog 47 [.agg [.int .i64 p0.Kind, .int .i64 p0.Var, .int .i64 p0.Event, .int .i64 p0.Sum.Const, .sl 1 (List.map Qf p0.Sum.Coeffs), .int .i64 p0.Index.Const, .sl 1 (List.map Qf p0.Index.Coeffs), .sl 2 (List.map Qq p0.Facts)]] [] (.agg [.int .i64 out.Kind, .int .i64 out.Var, .int .i64 out.Event, .int .i64 out.Sum.Const, .ow 1000, .int .i64 out.Index.Const, .ow 1001, .ow 1002]) [(1000, .arr ⟨false, true⟩ 1 2 (List.map Qf out.Sum.Coeffs)), (1001, .arr ⟨false, true⟩ 1 2 (List.map Qf out.Index.Coeffs)), (1002, .arr ⟨false, true⟩ 2 75 (List.map Qq out.Facts))] := by
 refine ACall.intro Try.func47 rfl Try.ntmps47 rfl (fun F hF => ?_)
 unfold m_impl_ownStmt at hm
 refine Qn ?_
 refine Qc ?_
 refine TL_box 11 rfl rfl rfl rfl rfl rfl rfl ?_
 refine Xk 12 z77 rfl rfl rfl rfl rfl rfl rfl ?_
 refine Qe ?_
 refine Qn ?_
 refine T_drawZ [10, 12, 14] mix (by kernel_rfl) rfl ?_
 obtain ⟨r5, hr5, hm⟩ := Qv hm
 obtain ⟨r8, hr8, hm⟩ := Qv hm
 obtain ⟨r11, hr11, hm⟩ := Qv hm
 refine Ql 0 (by kernel_rfl) rfl rfl rfl rfl rfl (Qi fa77_3 rfl rfl) ?_
 refine Ql 1 (by kernel_rfl) rfl rfl rfl rfl rfl (Qt ag75 sz75 rfl rfl rfl) ?_
 refine Ql 3 (by kernel_rfl) rfl rfl rfl rfl rfl (Qi fa77_4 rfl rfl) ?_
 refine Ql 4 (by kernel_rfl) rfl rfl rfl rfl rfl (Qt ag75 sz75 rfl rfl rfl) ?_
 refine Ql 6 (by kernel_rfl) rfl rfl rfl rfl rfl (Qi fa77_5 rfl rfl) ?_
 refine Ql 7 (by kernel_rfl) rfl rfl rfl rfl rfl (Qj ag24 rfl rfl) ?_
 refine QF 2 (by kernel_rfl) rfl ?_
 refine TL_callO [(1000, 16)] (c_impl_Term_own p0.Sum r5 hr5) Try.call87 rfl rfl rfl rfl rfl rfl rfl rfl rfl rfl rfl rfl rfl ?_
 refine Qe ?_
 refine Ql 9 (by kernel_rfl) rfl rfl rfl rfl rfl (Qi fa77_3 rfl rfl) ?_
 refine QF 5 (by kernel_rfl) rfl ?_
 refine TL_callO [(1000, 17)] (c_impl_Term_own p0.Index r8 hr8) Try.call87 rfl rfl rfl rfl rfl rfl rfl rfl rfl rfl rfl rfl rfl ?_
 refine Qe ?_
 refine QF 8 (by kernel_rfl) rfl ?_
 refine TL_callO [(1000, 18)] (c_impl_ownTerms p0.Facts r11 hr11) Try.call48 rfl rfl rfl rfl rfl rfl rfl rfl rfl rfl rfl rfl rfl ?_
 refine Qe ?_
 refine QF 10 (by kernel_rfl) rfl ?_
 refine Qr sz75 rfl rfl rfl rfl rfl rfl rfl rfl rfl ?_
 refine Qe ?_
 refine Ql 11 (by kernel_rfl) rfl rfl rfl rfl rfl (Qi fa77_4 rfl rfl) ?_
 refine QF 12 (by kernel_rfl) rfl ?_
 refine Qr sz75 rfl rfl rfl rfl rfl rfl rfl rfl rfl ?_
 refine Qe ?_
 refine Ql 13 (by kernel_rfl) rfl rfl rfl rfl rfl (Qi fa77_5 rfl rfl) ?_
 refine QF 14 (by kernel_rfl) rfl ?_
 refine Qr sz24 rfl rfl rfl rfl rfl rfl rfl rfl rfl ?_
 refine Qe ?_
 refine Q8 (by kernel_rfl) ?_
 refine Qn ?_
 refine Qc ?_
 refine Qa rfl rfl rfl rfl (Qt ag77 sz77 rfl rfl rfl) ?_
 refine Qr sz77 rfl rfl rfl rfl rfl rfl rfl rfl rfl ?_
 refine Qe ?_
 refine Qo [2] [12, 16, 17, 18] rfl rfl rfl rfl (by rw [hF]; rfl) ?_
 refine T_ren [(12, 12), (16, 1000), (17, 1001), (18, 1002)] rfl rfl rfl (by rw [hF]; rfl) ?_
 refine QB ?_
 obtain rfl := Qw hm
 refine ⟨[_], [1000, 1001, 1002], ⟨⟨_, _, rfl, rfl, .inr ⟨ag77, _, _, sz77, rfl, rfl⟩⟩, trivial⟩, ?_, rfl, rfl, rfl, rfl⟩
 rfl
theorem c_impl_tree_body_F (rec_impl_tree_body : Ptree → Option (List Stmt)) (hrec_impl_tree_body : ∀ (p0 : Ptree) (out : List Stmt), rec_impl_tree_body p0 = some out → ACall Try.prog 57 [Qg p0] [] (.ow 1000) [(1000, .arr ⟨false, true⟩ 8 77 (List.map QZ out))]) (p0 : Ptree) (out : List Stmt) (hm : m_impl_tree_body_F rec_impl_tree_body p0 = some out) : ACall Try.prog 57 [Qg p0] [] (.ow 1000) [(1000, .arr ⟨false, true⟩ 8 77 (List.map QZ out))] := by
 refine ACall.intro Try.func57 rfl Try.ntmps57 rfl (fun F hF => ?_)
 unfold m_impl_tree_body_F at hm
 refine Qn ?_
 refine Qc ?_
 refine Qa rfl rfl rfl rfl (Qb rfl) ?_
 refine Qe ?_
 refine Qn ?_
 refine Qc ?_
 refine Qa rfl rfl rfl rfl (Qd rfl) ?_
 obtain ⟨o6, ho6, hm⟩ := Qv hm
 refine TL_trAt 6 (x' := .cp [.int .i64 o6.Stmt.Kind, .int .i64 o6.Stmt.Var, .int .i64 o6.Stmt.Event, .int .i64 o6.Stmt.Sum.Const, .sl 1 (List.map Qf o6.Stmt.Sum.Coeffs), .int .i64 o6.Stmt.Index.Const, .sl 1 (List.map Qf o6.Stmt.Index.Coeffs), .sl 2 (List.map Qq o6.Stmt.Facts), .int .i64 o6.at_, .sl 1 (List.map Qg o6.kids)]) rfl (Xh (QV ho6)) rfl ?_
 refine Qa rfl rfl rfl rfl (Qs rfl rfl) ?_
 refine Qa rfl rfl rfl rfl (Qu (n := 8) fa132_0 rfl rfl rfl) ?_
 refine Qa rfl rfl rfl rfl (Qt ag77 sz77 rfl rfl rfl) ?_
 obtain ⟨r10, hr10, hm⟩ := Qv hm
 refine TL_callO [(1000, 11), (1001, 12), (1002, 13)] (c_impl_ownStmt o6.Stmt r10 hr10) Try.call47 rfl rfl rfl rfl rfl rfl rfl rfl rfl rfl rfl rfl rfl ?_
 refine TL_buildSliceD (ids := [11, 12, 13]) (es := List.map QZ [r10]) 14 el25 z77 rfl rfl rfl rfl rfl rfl (by rw [hF]; intro j hj; simp only [List.mem_cons, List.not_mem_nil, or_false] at hj; rcases hj with rfl | rfl | rfl <;> rfl) rfl rfl rfl rfl rfl rfl ?_
 refine Qa rfl rfl rfl rfl (Qb rfl) ?_
 refine Qe ?_
 refine Qn ?_
 refine Qn ?_
 refine Qc ?_
 refine Qa rfl rfl rfl rfl (Qd rfl) ?_
 refine TL_trAt 12 (x' := .cp [.int .i64 o6.Stmt.Kind, .int .i64 o6.Stmt.Var, .int .i64 o6.Stmt.Event, .int .i64 o6.Stmt.Sum.Const, .sl 1 (List.map Qf o6.Stmt.Sum.Coeffs), .int .i64 o6.Stmt.Index.Const, .sl 1 (List.map Qf o6.Stmt.Index.Coeffs), .sl 2 (List.map Qq o6.Stmt.Facts), .int .i64 o6.at_, .sl 1 (List.map Qg o6.kids)]) rfl (Xh (QV ho6)) rfl ?_
 refine Qa rfl rfl rfl rfl (Qs rfl rfl) ?_
 refine Qa rfl rfl rfl rfl (Qi fa132_2 rfl rfl) ?_
 refine Qa rfl rfl rfl rfl (Qj ag129 rfl rfl) ?_
 refine Qa rfl rfl rfl rfl (Xm Try.underlying129 rfl (List.length_map _)) ?_
 refine Xy (fun _ _ _ hr => RelP.slLen (i := 15) rfl hr) (fun hlen16 => ?_)
 rw [List.length_map] at hlen16
 refine Qa rfl rfl rfl rfl (Qd rfl) ?_
 refine Qe ?_
 refine Xd ?_
 refine Qo [3, 15, 16, 17] [14] rfl rfl rfl rfl (by rw [hF]; rfl) ?_
 refine T_loop ?_
 obtain ⟨u0, hl0, hm⟩ := Qv hm
 refine TR_forL2 o6.kids (m_impl_tree_body_F_L0 rec_impl_tree_body) (fun (s0 : List Stmt) => s0) (fun n0 (s0 : List Stmt) => ⟨[(3, .ow 14), (15, .sl 1 (List.map Qg o6.kids)), (16, .int .i64 (o6.kids.length : Int)), (17, .int .i64 (n0 : Int))], [(14, .arr ⟨false, true⟩ 8 77 (List.map QZ s0))]⟩) (fun u0 => .exit 0) (fun u0 => ⟨[(3, .ow 14)], [(14, .arr ⟨false, true⟩ 8 77 (List.map QZ u0))]⟩) (fun u0 => m_impl_tree_body_F_A0 u0 = some out) hl0 hm (fun u0 hm => ?_) (fun hx0 s0 hm => ?_) (fun hx0 n0 x0 s0 c0 hxn0 hlt0 hm hc0 => ?_)
 ·unfold m_impl_tree_body_F_A0 at hm
  refine Qn ?_
  refine Qc ?_
  refine Qa rfl rfl rfl rfl (Qd rfl) ?_
  refine Qa rfl rfl rfl rfl (Qb rfl) ?_
  refine Qe ?_
  refine Qo [2] [14] rfl rfl rfl rfl (by rw [hF]; rfl) ?_
  refine T_ren [(14, 1000)] rfl rfl rfl (by rw [hF]; rfl) ?_
  refine QB ?_
  obtain rfl := Qw hm
  refine ⟨[_], [1000], ⟨rfl, trivial⟩, ?_, rfl, rfl, rfl, rfl⟩
  rfl
 ·refine Qn ?_
  refine Qc ?_
  refine Qa rfl rfl rfl rfl (op_lss rfl rfl) ?_
  refine Qe ?_
  refine Qn ?_
  refine T_if_false rfl (decide_eq_false (by simp)) ?_
  refine Qo [3] [14] rfl rfl rfl rfl (by rw [hF]; rfl) ?_
  refine T_exit ?_
  exact hx0 s0 hm
 ·unfold m_impl_tree_body_F_L0 at hm
  refine Qn ?_
  refine Qc ?_
  refine Qa rfl rfl rfl rfl (op_lss rfl rfl) ?_
  refine Qe ?_
  refine Qn ?_
  refine T_if_true rfl (decide_eq_true (Int.ofNat_lt.2 hlt0)) ?_
  refine QL ?_
  refine Qn ?_
  refine Xd ?_
  refine Qn ?_
  refine Qc ?_
  refine Qa rfl rfl rfl rfl (op_index_sl el129 rfl rfl rfl (get_map hxn0) rfl) ?_
  refine Qa rfl rfl rfl rfl (Qj ag88 rfl rfl) ?_
  refine Qa rfl rfl rfl rfl (Qb rfl) ?_
  refine Qe ?_
  refine Qc ?_
  refine Qa rfl rfl rfl rfl (Qd rfl) ?_
  refine Qa rfl rfl rfl rfl (Qd rfl) ?_
  obtain ⟨r23, hr23, hm⟩ := Qv hm
  refine TL_callO [(1000, 17)] (hrec_impl_tree_body x0 r23 hr23) Try.call57 rfl rfl rfl rfl rfl rfl rfl rfl rfl rfl rfl rfl rfl ?_
  obtain ⟨q24, hq24, hm⟩ := Qv hm
  refine TL_appendDT (f := QZ) (a := s0) (b := r23) el25 z77 rfl rfl rfl rfl rfl rfl rfl rfl (by rw [hF]; rfl) (Xa hq24) rfl rfl rfl rfl rfl ?_
  refine Qa rfl rfl rfl rfl (Qb rfl) ?_
  refine Qe ?_
  refine Qc ?_
  refine Qa rfl rfl rfl rfl (op_addN rfl rfl (Nat.lt_of_lt_of_le hlt0 hlen16)) ?_
  refine Qa rfl rfl rfl rfl (Qd rfl) ?_
  refine Qe ?_
  refine Xw [3, 15, 16, 17] [14] rfl rfl rfl rfl (by rw [hF]; rfl) ?_
  obtain rfl := Qw hm
  have hn := Q7 hc0
  exact hn _ rfl
theorem c_impl_tree_body : ∀ (n : Nat) (p0 : Ptree) (out : List Stmt), m_impl_tree_body n p0 = some out → ACall Try.prog 57 [Qg p0] [] (.ow 1000) [(1000, .arr ⟨false, true⟩ 8 77 (List.map QZ out))] := by
 intro n
 induction n with
 | zero => intro p0 out hm; cases hm
 | succ n ih => intro p0 out hm; exact c_impl_tree_body_F (m_impl_tree_body n) ih p0 out hm
theorem c_impl_SimplifyBody (p0 : List Stmt) (out : (List Stmt) × Bool) (hm : m_impl_SimplifyBody p0 = some out) : ACall Try.prog 34 [.sl 8 (List.map QZ p0)] [] (.tup [.ow 1000, .bool out.2]) [(1000, .arr ⟨false, true⟩ 8 77 (List.map QZ out.1))] := by
 refine ACall.intro Try.func34 rfl Try.ntmps34 rfl (fun F hF => ?_)
 unfold m_impl_SimplifyBody at hm
 refine Qn ?_
 refine Qc ?_
 refine Qa rfl rfl rfl rfl (Qb rfl) ?_
 refine Qa rfl rfl rfl rfl (Qb rfl) ?_
 refine Qe ?_
 refine Qn ?_
 refine Qc ?_
 refine Qa rfl rfl rfl rfl (Qd rfl) ?_
 obtain ⟨r8, hr8, hm⟩ := Qv hm
 refine TL_callT (c_impl_treeOf p0 r8 hr8) Try.call55 rfl rfl rfl rfl rfl ?_
 refine Qa rfl rfl rfl rfl (Qd rfl) ?_
 refine Qa rfl rfl rfl rfl (QH rfl rfl) ?_
 refine Qa rfl rfl rfl rfl (QH rfl rfl) ?_
 refine Qa rfl rfl rfl rfl (Qb rfl) ?_
 refine Qa rfl rfl rfl rfl (Qb rfl) ?_
 refine Qe ?_
 refine Qn ?_
 refine Qn ?_
 refine Qc ?_
 refine Qa rfl rfl rfl rfl (Qd rfl) ?_
 refine Qa rfl rfl rfl rfl (op_not rfl) ?_
 refine Qe ?_
 refine QI rfl (fun hq => ?_) (fun hq => ?_)
 ·replace hm := QO hq hm
  refine Qn ?_
  refine Qc ?_
  refine Qa rfl rfl rfl rfl (Qb rfl) ?_
  refine Qa rfl rfl rfl rfl (Qb rfl) ?_
  refine Qe ?_
  refine T_ownNil 2 11 ⟨false, true⟩ 77 rfl rfl (sz := 8) rfl rfl rfl ?_
  refine Qo [2, 3] [11] rfl rfl rfl rfl (by rw [hF]; rfl) ?_
  refine T_ren [(11, 1000)] rfl rfl rfl (by rw [hF]; rfl) ?_
  refine QB ?_
  obtain rfl := Qw hm
  refine ⟨[_, _], [1000], ⟨rfl, rfl, trivial⟩, ?_, rfl, rfl, rfl, rfl⟩
  rfl
 ·replace hm := QM hq hm
  refine QL ?_
  refine Qn ?_
  refine Qc ?_
  refine Qa rfl rfl rfl rfl (Qd rfl) ?_
  obtain ⟨r14, hr14, hm⟩ := Qv hm
  refine TL_callT (c_impl_tree_simplified 1000 r8.1 r14 hr14) Try.call69 rfl rfl rfl rfl rfl ?_
  obtain ⟨r15, hr15, hm⟩ := Qv hm
  refine TL_callO [(1000, 12)] (c_impl_tree_body 1000 r14 r15 hr15) Try.call57 rfl rfl rfl rfl rfl rfl rfl rfl rfl rfl rfl rfl rfl ?_
  refine Qa rfl rfl rfl rfl (Qb rfl) ?_
  refine Qa rfl rfl rfl rfl (Qb rfl) ?_
  refine Qe ?_
  refine Qo [2, 3] [12] rfl rfl rfl rfl (by rw [hF]; rfl) ?_
  refine T_ren [(12, 1000)] rfl rfl rfl (by rw [hF]; rfl) ?_
  refine QB ?_
  obtain rfl := Qw hm
  refine ⟨[_, _], [1000], ⟨rfl, rfl, trivial⟩, ?_, rfl, rfl, rfl, rfl⟩
  rfl
theorem c_impl_tree_parts_F (rec_impl_tree_parts : Ptree → Option (List Ptree)) (hrec_impl_tree_parts : ∀ (p0 : Ptree) (out : List Ptree), rec_impl_tree_parts p0 = some out → ACall Try.prog 99 [Qg p0] [] (.ow 1000) [(1000, .arr ⟨false, false⟩ 1 88 (List.map Qg out))]) (p0 : Ptree) (out : List Ptree) (hm : m_impl_tree_parts_F rec_impl_tree_parts p0 = some out) : ACall Try.prog 99 [Qg p0] [] (.ow 1000) [(1000, .arr ⟨false, false⟩ 1 88 (List.map Qg out))] := by
 refine ACall.intro Try.func99 rfl Try.ntmps99 rfl (fun F hF => ?_)
 unfold m_impl_tree_parts_F at hm
 refine Qn ?_
 refine Qc ?_
 refine Qa rfl rfl rfl rfl (Qb rfl) ?_
 refine Qe ?_
 refine Qn ?_
 refine Qn ?_
 refine Qc ?_
 refine Qa rfl rfl rfl rfl (Qd rfl) ?_
 obtain ⟨o3, ho3, hm⟩ := Qv hm
 refine TL_trAt 3 (x' := .cp [.int .i64 o3.Stmt.Kind, .int .i64 o3.Stmt.Var, .int .i64 o3.Stmt.Event, .int .i64 o3.Stmt.Sum.Const, .sl 1 (List.map Qf o3.Stmt.Sum.Coeffs), .int .i64 o3.Stmt.Index.Const, .sl 1 (List.map Qf o3.Stmt.Index.Coeffs), .sl 2 (List.map Qq o3.Stmt.Facts), .int .i64 o3.at_, .sl 1 (List.map Qg o3.kids)]) rfl (Xh (QV ho3)) rfl ?_
 refine Qa rfl rfl rfl rfl (Qs rfl rfl) ?_
 refine Qa rfl rfl rfl rfl (Qu (n := 8) fa132_0 rfl rfl rfl) ?_
 refine Qa rfl rfl rfl rfl (Qu (n := 1) fa77_0 rfl rfl rfl) ?_
 refine Qa rfl rfl rfl rfl (Qj ag2 rfl rfl) ?_
 refine Qa rfl rfl rfl rfl (op_neq rfl rfl) ?_
 refine Qe ?_
 refine QI rfl (fun hq => ?_) (fun hq => ?_)
 ·replace hm := QO hq hm
  refine Qn ?_
  refine Qc ?_
  refine Qa rfl rfl rfl rfl (Qd rfl) ?_
  refine QD 11 (es := List.map Qg [p0]) el129 z88 rfl rfl rfl rfl rfl rfl rfl rfl rfl ?_
  refine Qa rfl rfl rfl rfl (Qb rfl) ?_
  refine Qe ?_
  refine Qo [2] [11] rfl rfl rfl rfl (by rw [hF]; rfl) ?_
  refine T_ren [(11, 1000)] rfl rfl rfl (by rw [hF]; rfl) ?_
  refine QB ?_
  obtain rfl := Qw hm
  refine ⟨[_], [1000], ⟨rfl, trivial⟩, ?_, rfl, rfl, rfl, rfl⟩
  rfl
 ·replace hm := QM hq hm
  refine QL ?_
  refine Qn ?_
  refine T_drawZ [14] mix (by kernel_rfl) rfl ?_
  obtain ⟨x15, hx15, hm⟩ := Qv hm
  obtain ⟨r17, hr17, hm⟩ := Qv hm
  obtain ⟨x22, hx22, hm⟩ := Qv hm
  obtain ⟨r24, hr24, hm⟩ := Qv hm
  obtain ⟨q25, hq25, hm⟩ := Qv hm
  refine Ql 0 (by kernel_rfl) rfl rfl rfl rfl rfl (Qd rfl) ?_
  refine TZ_trAt 11 (x' := .cp [.int .i64 o3.Stmt.Kind, .int .i64 o3.Stmt.Var, .int .i64 o3.Stmt.Event, .int .i64 o3.Stmt.Sum.Const, .sl 1 (List.map Qf o3.Stmt.Sum.Coeffs), .int .i64 o3.Stmt.Index.Const, .sl 1 (List.map Qf o3.Stmt.Index.Coeffs), .sl 2 (List.map Qq o3.Stmt.Facts), .int .i64 o3.at_, .sl 1 (List.map Qg o3.kids)]) rfl (Xh (QV ho3)) rfl ?_
  refine Ql 1 (by kernel_rfl) rfl rfl rfl rfl rfl (Qs rfl rfl) ?_
  refine Ql 2 (by kernel_rfl) rfl rfl rfl rfl rfl (Qi fa132_2 rfl rfl) ?_
  refine Ql 7 (by kernel_rfl) rfl rfl rfl rfl rfl (Qd rfl) ?_
  refine TZ_trAt 18 (x' := .cp [.int .i64 o3.Stmt.Kind, .int .i64 o3.Stmt.Var, .int .i64 o3.Stmt.Event, .int .i64 o3.Stmt.Sum.Const, .sl 1 (List.map Qf o3.Stmt.Sum.Coeffs), .int .i64 o3.Stmt.Index.Const, .sl 1 (List.map Qf o3.Stmt.Index.Coeffs), .sl 2 (List.map Qq o3.Stmt.Facts), .int .i64 o3.at_, .sl 1 (List.map Qg o3.kids)]) rfl (Xh (QV ho3)) rfl ?_
  refine Ql 8 (by kernel_rfl) rfl rfl rfl rfl rfl (Qs rfl rfl) ?_
  refine Ql 9 (by kernel_rfl) rfl rfl rfl rfl rfl (Qi fa132_2 rfl rfl) ?_
  refine XD 6 [true, true, true, true, true, true, true, true, true, true, false, false, false, false, false, false] ⟨[(0, Qg p0), (2, .snil), (3, .cp [.int .i64 o3.Stmt.Kind, .int .i64 o3.Stmt.Var, .int .i64 o3.Stmt.Event, .int .i64 o3.Stmt.Sum.Const, .sl 1 (List.map Qf o3.Stmt.Sum.Coeffs), .int .i64 o3.Stmt.Index.Const, .sl 1 (List.map Qf o3.Stmt.Index.Coeffs), .sl 2 (List.map Qq o3.Stmt.Facts), .int .i64 o3.at_, .sl 1 (List.map Qg o3.kids)]), (4, .cp [.int .i64 o3.Stmt.Kind, .int .i64 o3.Stmt.Var, .int .i64 o3.Stmt.Event, .int .i64 o3.Stmt.Sum.Const, .sl 1 (List.map Qf o3.Stmt.Sum.Coeffs), .int .i64 o3.Stmt.Index.Const, .sl 1 (List.map Qf o3.Stmt.Index.Coeffs), .sl 2 (List.map Qq o3.Stmt.Facts), .int .i64 o3.at_, .sl 1 (List.map Qg o3.kids)]), (5, .cp [.int .i64 o3.Stmt.Kind, .int .i64 o3.Stmt.Var, .int .i64 o3.Stmt.Event, .int .i64 o3.Stmt.Sum.Const, .sl 1 (List.map Qf o3.Stmt.Sum.Coeffs), .int .i64 o3.Stmt.Index.Const, .sl 1 (List.map Qf o3.Stmt.Index.Coeffs), .sl 2 (List.map Qq o3.Stmt.Facts)]), (6, .cp [.int .i64 o3.Stmt.Kind]), (7, .int .i64 o3.Stmt.Kind), (8, .bool (!decide (o3.Stmt.Kind = (1 : Int)))), (11, .cp [.int .i64 o3.Stmt.Kind, .int .i64 o3.Stmt.Var, .int .i64 o3.Stmt.Event, .int .i64 o3.Stmt.Sum.Const, .sl 1 (List.map Qf o3.Stmt.Sum.Coeffs), .int .i64 o3.Stmt.Index.Const, .sl 1 (List.map Qf o3.Stmt.Index.Coeffs), .sl 2 (List.map Qq o3.Stmt.Facts), .int .i64 o3.at_, .sl 1 (List.map Qg o3.kids)]), (12, .cp [.int .i64 o3.Stmt.Kind, .int .i64 o3.Stmt.Var, .int .i64 o3.Stmt.Event, .int .i64 o3.Stmt.Sum.Const, .sl 1 (List.map Qf o3.Stmt.Sum.Coeffs), .int .i64 o3.Stmt.Index.Const, .sl 1 (List.map Qf o3.Stmt.Index.Coeffs), .sl 2 (List.map Qq o3.Stmt.Facts), .int .i64 o3.at_, .sl 1 (List.map Qg o3.kids)]), (13, .cp [.sl 1 (List.map Qg o3.kids)]), (14, .sl 1 (List.map Qg o3.kids)), (15, .cp [Qg x15]), (16, Qg x15), (17, .ow 572), (18, .cp [.int .i64 o3.Stmt.Kind, .int .i64 o3.Stmt.Var, .int .i64 o3.Stmt.Event, .int .i64 o3.Stmt.Sum.Const, .sl 1 (List.map Qf o3.Stmt.Sum.Coeffs), .int .i64 o3.Stmt.Index.Const, .sl 1 (List.map Qf o3.Stmt.Index.Coeffs), .sl 2 (List.map Qq o3.Stmt.Facts), .int .i64 o3.at_, .sl 1 (List.map Qg o3.kids)]), (19, .cp [.int .i64 o3.Stmt.Kind, .int .i64 o3.Stmt.Var, .int .i64 o3.Stmt.Event, .int .i64 o3.Stmt.Sum.Const, .sl 1 (List.map Qf o3.Stmt.Sum.Coeffs), .int .i64 o3.Stmt.Index.Const, .sl 1 (List.map Qf o3.Stmt.Index.Coeffs), .sl 2 (List.map Qq o3.Stmt.Facts), .int .i64 o3.at_, .sl 1 (List.map Qg o3.kids)]), (20, .cp [.sl 1 (List.map Qg o3.kids)])], [(572, .arr ⟨false, false⟩ 1 88 (List.map Qg r17))]⟩ ?_ (fun hS11_0 => ?_)
  ·refine QF 10 (by kernel_rfl) rfl ?_
   refine Qa rfl rfl rfl rfl (Qj ag129 rfl rfl) ?_
   refine Qe ?_
   refine Ql 11 (by kernel_rfl) rfl rfl rfl rfl rfl (Xi el129 rfl rfl hx22 rfl) ?_
   refine QF 12 (by kernel_rfl) rfl ?_
   refine Qa rfl rfl rfl rfl (Qj ag88 rfl rfl) ?_
   refine Qe ?_
   refine QF 13 (by kernel_rfl) rfl ?_
   refine TLE_call [] [(1000, 1132)] [] (hrec_impl_tree_parts x22 r24 hr24) (fun _ => rfl) Try.call99 rfl rfl rfl rfl rfl trivial rfl rfl rfl rfl rfl rfl rfl rfl rfl rfl rfl ?_
   refine Qe ?_
   refine QF 14 (by kernel_rfl) rfl ?_
   refine Xc (f := Qg) (a := r17) (b := r24) el129 z88 rfl rfl rfl rfl rfl rfl rfl (Xa hq25) rfl rfl rfl rfl rfl ?_
   refine Qe ?_
   refine Ql 15 (by kernel_rfl) rfl rfl rfl rfl rfl (Qb rfl) ?_
   refine Q8 (by kernel_rfl) ?_
   refine Qo [2] [572] rfl rfl rfl rfl (by rw [hF]; rfl) ?_
   refine T_ren [(572, 1000)] rfl rfl rfl (by rw [hF]; rfl) ?_
   refine QB ?_
   obtain rfl := Qw hm
   refine ⟨[_], [1000], ⟨rfl, trivial⟩, ?_, rfl, rfl, rfl, rfl⟩
   rfl
  refine XD 4 [true, true, true, true, true, true, true, true, true, true, true, true, false, false, false, false] ⟨[(0, Qg p0), (2, .snil), (3, .cp [.int .i64 o3.Stmt.Kind, .int .i64 o3.Stmt.Var, .int .i64 o3.Stmt.Event, .int .i64 o3.Stmt.Sum.Const, .sl 1 (List.map Qf o3.Stmt.Sum.Coeffs), .int .i64 o3.Stmt.Index.Const, .sl 1 (List.map Qf o3.Stmt.Index.Coeffs), .sl 2 (List.map Qq o3.Stmt.Facts), .int .i64 o3.at_, .sl 1 (List.map Qg o3.kids)]), (4, .cp [.int .i64 o3.Stmt.Kind, .int .i64 o3.Stmt.Var, .int .i64 o3.Stmt.Event, .int .i64 o3.Stmt.Sum.Const, .sl 1 (List.map Qf o3.Stmt.Sum.Coeffs), .int .i64 o3.Stmt.Index.Const, .sl 1 (List.map Qf o3.Stmt.Index.Coeffs), .sl 2 (List.map Qq o3.Stmt.Facts), .int .i64 o3.at_, .sl 1 (List.map Qg o3.kids)]), (5, .cp [.int .i64 o3.Stmt.Kind, .int .i64 o3.Stmt.Var, .int .i64 o3.Stmt.Event, .int .i64 o3.Stmt.Sum.Const, .sl 1 (List.map Qf o3.Stmt.Sum.Coeffs), .int .i64 o3.Stmt.Index.Const, .sl 1 (List.map Qf o3.Stmt.Index.Coeffs), .sl 2 (List.map Qq o3.Stmt.Facts)]), (6, .cp [.int .i64 o3.Stmt.Kind]), (7, .int .i64 o3.Stmt.Kind), (8, .bool (!decide (o3.Stmt.Kind = (1 : Int)))), (11, .cp [.int .i64 o3.Stmt.Kind, .int .i64 o3.Stmt.Var, .int .i64 o3.Stmt.Event, .int .i64 o3.Stmt.Sum.Const, .sl 1 (List.map Qf o3.Stmt.Sum.Coeffs), .int .i64 o3.Stmt.Index.Const, .sl 1 (List.map Qf o3.Stmt.Index.Coeffs), .sl 2 (List.map Qq o3.Stmt.Facts), .int .i64 o3.at_, .sl 1 (List.map Qg o3.kids)]), (12, .cp [.int .i64 o3.Stmt.Kind, .int .i64 o3.Stmt.Var, .int .i64 o3.Stmt.Event, .int .i64 o3.Stmt.Sum.Const, .sl 1 (List.map Qf o3.Stmt.Sum.Coeffs), .int .i64 o3.Stmt.Index.Const, .sl 1 (List.map Qf o3.Stmt.Index.Coeffs), .sl 2 (List.map Qq o3.Stmt.Facts), .int .i64 o3.at_, .sl 1 (List.map Qg o3.kids)]), (13, .cp [.sl 1 (List.map Qg o3.kids)]), (14, .sl 1 (List.map Qg o3.kids)), (15, .cp [Qg x15]), (16, Qg x15), (17, .ow 572), (18, .cp [.int .i64 o3.Stmt.Kind, .int .i64 o3.Stmt.Var, .int .i64 o3.Stmt.Event, .int .i64 o3.Stmt.Sum.Const, .sl 1 (List.map Qf o3.Stmt.Sum.Coeffs), .int .i64 o3.Stmt.Index.Const, .sl 1 (List.map Qf o3.Stmt.Index.Coeffs), .sl 2 (List.map Qq o3.Stmt.Facts), .int .i64 o3.at_, .sl 1 (List.map Qg o3.kids)]), (19, .cp [.int .i64 o3.Stmt.Kind, .int .i64 o3.Stmt.Var, .int .i64 o3.Stmt.Event, .int .i64 o3.Stmt.Sum.Const, .sl 1 (List.map Qf o3.Stmt.Sum.Coeffs), .int .i64 o3.Stmt.Index.Const, .sl 1 (List.map Qf o3.Stmt.Index.Coeffs), .sl 2 (List.map Qq o3.Stmt.Facts), .int .i64 o3.at_, .sl 1 (List.map Qg o3.kids)]), (20, .cp [.sl 1 (List.map Qg o3.kids)]), (21, .sl 1 (List.map Qg o3.kids)), (22, .cp [Qg x22])], [(572, .arr ⟨false, false⟩ 1 88 (List.map Qg r17))]⟩ ?_ (fun hS11_1 => ?_)
  ·refine QF 12 (by kernel_rfl) rfl ?_
   refine Qa rfl rfl rfl rfl (Qj ag88 rfl rfl) ?_
   refine Qe ?_
   refine QF 13 (by kernel_rfl) rfl ?_
   refine TLE_call [] [(1000, 1132)] [] (hrec_impl_tree_parts x22 r24 hr24) (fun _ => rfl) Try.call99 rfl rfl rfl rfl rfl trivial rfl rfl rfl rfl rfl rfl rfl rfl rfl rfl rfl ?_
   refine Qe ?_
   refine QF 14 (by kernel_rfl) rfl ?_
   refine Xc (f := Qg) (a := r17) (b := r24) el129 z88 rfl rfl rfl rfl rfl rfl rfl (Xa hq25) rfl rfl rfl rfl rfl ?_
   refine Qe ?_
   refine Ql 15 (by kernel_rfl) rfl rfl rfl rfl rfl (Qb rfl) ?_
   refine Q8 (by kernel_rfl) ?_
   refine Qo [2] [572] rfl rfl rfl rfl (by rw [hF]; rfl) ?_
   refine T_ren [(572, 1000)] rfl rfl rfl (by rw [hF]; rfl) ?_
   refine QB ?_
   obtain rfl := Qw hm
   refine ⟨[_], [1000], ⟨rfl, trivial⟩, ?_, rfl, rfl, rfl, rfl⟩
   rfl
  refine XD 4 [true, true, true, true, true, true, false, true, true, true, true, true, true, false, false, false] ⟨[(0, Qg p0), (2, .snil), (3, .cp [.int .i64 o3.Stmt.Kind, .int .i64 o3.Stmt.Var, .int .i64 o3.Stmt.Event, .int .i64 o3.Stmt.Sum.Const, .sl 1 (List.map Qf o3.Stmt.Sum.Coeffs), .int .i64 o3.Stmt.Index.Const, .sl 1 (List.map Qf o3.Stmt.Index.Coeffs), .sl 2 (List.map Qq o3.Stmt.Facts), .int .i64 o3.at_, .sl 1 (List.map Qg o3.kids)]), (4, .cp [.int .i64 o3.Stmt.Kind, .int .i64 o3.Stmt.Var, .int .i64 o3.Stmt.Event, .int .i64 o3.Stmt.Sum.Const, .sl 1 (List.map Qf o3.Stmt.Sum.Coeffs), .int .i64 o3.Stmt.Index.Const, .sl 1 (List.map Qf o3.Stmt.Index.Coeffs), .sl 2 (List.map Qq o3.Stmt.Facts), .int .i64 o3.at_, .sl 1 (List.map Qg o3.kids)]), (5, .cp [.int .i64 o3.Stmt.Kind, .int .i64 o3.Stmt.Var, .int .i64 o3.Stmt.Event, .int .i64 o3.Stmt.Sum.Const, .sl 1 (List.map Qf o3.Stmt.Sum.Coeffs), .int .i64 o3.Stmt.Index.Const, .sl 1 (List.map Qf o3.Stmt.Index.Coeffs), .sl 2 (List.map Qq o3.Stmt.Facts)]), (6, .cp [.int .i64 o3.Stmt.Kind]), (7, .int .i64 o3.Stmt.Kind), (8, .bool (!decide (o3.Stmt.Kind = (1 : Int)))), (11, .cp [.int .i64 o3.Stmt.Kind, .int .i64 o3.Stmt.Var, .int .i64 o3.Stmt.Event, .int .i64 o3.Stmt.Sum.Const, .sl 1 (List.map Qf o3.Stmt.Sum.Coeffs), .int .i64 o3.Stmt.Index.Const, .sl 1 (List.map Qf o3.Stmt.Index.Coeffs), .sl 2 (List.map Qq o3.Stmt.Facts), .int .i64 o3.at_, .sl 1 (List.map Qg o3.kids)]), (12, .cp [.int .i64 o3.Stmt.Kind, .int .i64 o3.Stmt.Var, .int .i64 o3.Stmt.Event, .int .i64 o3.Stmt.Sum.Const, .sl 1 (List.map Qf o3.Stmt.Sum.Coeffs), .int .i64 o3.Stmt.Index.Const, .sl 1 (List.map Qf o3.Stmt.Index.Coeffs), .sl 2 (List.map Qq o3.Stmt.Facts), .int .i64 o3.at_, .sl 1 (List.map Qg o3.kids)]), (13, .cp [.sl 1 (List.map Qg o3.kids)]), (14, .sl 1 (List.map Qg o3.kids)), (15, .cp [Qg x15]), (16, Qg x15), (18, .cp [.int .i64 o3.Stmt.Kind, .int .i64 o3.Stmt.Var, .int .i64 o3.Stmt.Event, .int .i64 o3.Stmt.Sum.Const, .sl 1 (List.map Qf o3.Stmt.Sum.Coeffs), .int .i64 o3.Stmt.Index.Const, .sl 1 (List.map Qf o3.Stmt.Index.Coeffs), .sl 2 (List.map Qq o3.Stmt.Facts), .int .i64 o3.at_, .sl 1 (List.map Qg o3.kids)]), (19, .cp [.int .i64 o3.Stmt.Kind, .int .i64 o3.Stmt.Var, .int .i64 o3.Stmt.Event, .int .i64 o3.Stmt.Sum.Const, .sl 1 (List.map Qf o3.Stmt.Sum.Coeffs), .int .i64 o3.Stmt.Index.Const, .sl 1 (List.map Qf o3.Stmt.Index.Coeffs), .sl 2 (List.map Qq o3.Stmt.Facts), .int .i64 o3.at_, .sl 1 (List.map Qg o3.kids)]), (20, .cp [.sl 1 (List.map Qg o3.kids)]), (21, .sl 1 (List.map Qg o3.kids)), (22, .cp [Qg x22]), (23, Qg x22)], []⟩ ?_ (fun hS11_2 => ?_)
  ·refine QF 6 (by kernel_rfl) rfl ?_
   refine TLE_call [] [(1000, 572)] [] (hrec_impl_tree_parts x15 r17 hr17) (fun _ => rfl) Try.call99 rfl rfl rfl rfl rfl trivial rfl rfl rfl rfl rfl rfl rfl rfl rfl rfl rfl ?_
   refine Qe ?_
   refine QF 13 (by kernel_rfl) rfl ?_
   refine TLE_call [] [(1000, 1132)] [] (hrec_impl_tree_parts x22 r24 hr24) (fun _ => rfl) Try.call99 rfl rfl rfl rfl rfl trivial rfl rfl rfl rfl rfl rfl rfl rfl rfl rfl rfl ?_
   refine Qe ?_
   refine QF 14 (by kernel_rfl) rfl ?_
   refine Xc (f := Qg) (a := r17) (b := r24) el129 z88 rfl rfl rfl rfl rfl rfl rfl (Xa hq25) rfl rfl rfl rfl rfl ?_
   refine Qe ?_
   refine Ql 15 (by kernel_rfl) rfl rfl rfl rfl rfl (Qb rfl) ?_
   refine Q8 (by kernel_rfl) ?_
   refine Qo [2] [572] rfl rfl rfl rfl (by rw [hF]; rfl) ?_
   refine T_ren [(572, 1000)] rfl rfl rfl (by rw [hF]; rfl) ?_
   refine QB ?_
   obtain rfl := Qw hm
   refine ⟨[_], [1000], ⟨rfl, trivial⟩, ?_, rfl, rfl, rfl, rfl⟩
   rfl
  refine XD 6 [true, true, true, true, true, true, false, true, true, true, true, false, false, false, false, false] ⟨[(0, Qg p0), (2, .snil), (3, .cp [.int .i64 o3.Stmt.Kind, .int .i64 o3.Stmt.Var, .int .i64 o3.Stmt.Event, .int .i64 o3.Stmt.Sum.Const, .sl 1 (List.map Qf o3.Stmt.Sum.Coeffs), .int .i64 o3.Stmt.Index.Const, .sl 1 (List.map Qf o3.Stmt.Index.Coeffs), .sl 2 (List.map Qq o3.Stmt.Facts), .int .i64 o3.at_, .sl 1 (List.map Qg o3.kids)]), (4, .cp [.int .i64 o3.Stmt.Kind, .int .i64 o3.Stmt.Var, .int .i64 o3.Stmt.Event, .int .i64 o3.Stmt.Sum.Const, .sl 1 (List.map Qf o3.Stmt.Sum.Coeffs), .int .i64 o3.Stmt.Index.Const, .sl 1 (List.map Qf o3.Stmt.Index.Coeffs), .sl 2 (List.map Qq o3.Stmt.Facts), .int .i64 o3.at_, .sl 1 (List.map Qg o3.kids)]), (5, .cp [.int .i64 o3.Stmt.Kind, .int .i64 o3.Stmt.Var, .int .i64 o3.Stmt.Event, .int .i64 o3.Stmt.Sum.Const, .sl 1 (List.map Qf o3.Stmt.Sum.Coeffs), .int .i64 o3.Stmt.Index.Const, .sl 1 (List.map Qf o3.Stmt.Index.Coeffs), .sl 2 (List.map Qq o3.Stmt.Facts)]), (6, .cp [.int .i64 o3.Stmt.Kind]), (7, .int .i64 o3.Stmt.Kind), (8, .bool (!decide (o3.Stmt.Kind = (1 : Int)))), (11, .cp [.int .i64 o3.Stmt.Kind, .int .i64 o3.Stmt.Var, .int .i64 o3.Stmt.Event, .int .i64 o3.Stmt.Sum.Const, .sl 1 (List.map Qf o3.Stmt.Sum.Coeffs), .int .i64 o3.Stmt.Index.Const, .sl 1 (List.map Qf o3.Stmt.Index.Coeffs), .sl 2 (List.map Qq o3.Stmt.Facts), .int .i64 o3.at_, .sl 1 (List.map Qg o3.kids)]), (12, .cp [.int .i64 o3.Stmt.Kind, .int .i64 o3.Stmt.Var, .int .i64 o3.Stmt.Event, .int .i64 o3.Stmt.Sum.Const, .sl 1 (List.map Qf o3.Stmt.Sum.Coeffs), .int .i64 o3.Stmt.Index.Const, .sl 1 (List.map Qf o3.Stmt.Index.Coeffs), .sl 2 (List.map Qq o3.Stmt.Facts), .int .i64 o3.at_, .sl 1 (List.map Qg o3.kids)]), (13, .cp [.sl 1 (List.map Qg o3.kids)]), (14, .sl 1 (List.map Qg o3.kids)), (15, .cp [Qg x15]), (16, Qg x15), (18, .cp [.int .i64 o3.Stmt.Kind, .int .i64 o3.Stmt.Var, .int .i64 o3.Stmt.Event, .int .i64 o3.Stmt.Sum.Const, .sl 1 (List.map Qf o3.Stmt.Sum.Coeffs), .int .i64 o3.Stmt.Index.Const, .sl 1 (List.map Qf o3.Stmt.Index.Coeffs), .sl 2 (List.map Qq o3.Stmt.Facts), .int .i64 o3.at_, .sl 1 (List.map Qg o3.kids)]), (19, .cp [.int .i64 o3.Stmt.Kind, .int .i64 o3.Stmt.Var, .int .i64 o3.Stmt.Event, .int .i64 o3.Stmt.Sum.Const, .sl 1 (List.map Qf o3.Stmt.Sum.Coeffs), .int .i64 o3.Stmt.Index.Const, .sl 1 (List.map Qf o3.Stmt.Index.Coeffs), .sl 2 (List.map Qq o3.Stmt.Facts), .int .i64 o3.at_, .sl 1 (List.map Qg o3.kids)]), (20, .cp [.sl 1 (List.map Qg o3.kids)]), (21, .sl 1 (List.map Qg o3.kids))], []⟩ ?_ (fun hS11_3 => ?_)
  ·refine Ql 11 (by kernel_rfl) rfl rfl rfl rfl rfl (Xi el129 rfl rfl hx22 rfl) ?_
   refine TZ_each [6, 12] (by kernel_rfl) rfl ?_
   refine ⟨?_, ?_⟩
   ·refine ⟨_, rfl, ?_⟩
    refine TLE_call [] [(1000, 572)] [] (hrec_impl_tree_parts x15 r17 hr17) (fun _ => rfl) Try.call99 rfl rfl rfl rfl rfl trivial rfl rfl rfl rfl rfl rfl rfl rfl rfl rfl rfl ?_
    refine Qe ?_
    refine QU [0, 2, 3, 4, 5, 6, 7, 8, 11, 12, 13, 14, 15, 16, 17, 18, 19, 20, 21, 22] [572] rfl rfl rfl rfl (by rw [hF]; rfl) ?_
    exact hS11_1
   ·refine ⟨_, rfl, ?_⟩
    refine Qa rfl rfl rfl rfl (Qj ag88 rfl rfl) ?_
    refine Qe ?_
    refine QU [0, 2, 3, 4, 5, 6, 7, 8, 11, 12, 13, 14, 15, 16, 18, 19, 20, 21, 22, 23] [] rfl rfl rfl rfl (by rw [hF]; rfl) ?_
    exact hS11_2
  refine XD 7 [true, true, true, true, true, true, false, true, true, true, false, false, false, false, false, false] ⟨[(0, Qg p0), (2, .snil), (3, .cp [.int .i64 o3.Stmt.Kind, .int .i64 o3.Stmt.Var, .int .i64 o3.Stmt.Event, .int .i64 o3.Stmt.Sum.Const, .sl 1 (List.map Qf o3.Stmt.Sum.Coeffs), .int .i64 o3.Stmt.Index.Const, .sl 1 (List.map Qf o3.Stmt.Index.Coeffs), .sl 2 (List.map Qq o3.Stmt.Facts), .int .i64 o3.at_, .sl 1 (List.map Qg o3.kids)]), (4, .cp [.int .i64 o3.Stmt.Kind, .int .i64 o3.Stmt.Var, .int .i64 o3.Stmt.Event, .int .i64 o3.Stmt.Sum.Const, .sl 1 (List.map Qf o3.Stmt.Sum.Coeffs), .int .i64 o3.Stmt.Index.Const, .sl 1 (List.map Qf o3.Stmt.Index.Coeffs), .sl 2 (List.map Qq o3.Stmt.Facts), .int .i64 o3.at_, .sl 1 (List.map Qg o3.kids)]), (5, .cp [.int .i64 o3.Stmt.Kind, .int .i64 o3.Stmt.Var, .int .i64 o3.Stmt.Event, .int .i64 o3.Stmt.Sum.Const, .sl 1 (List.map Qf o3.Stmt.Sum.Coeffs), .int .i64 o3.Stmt.Index.Const, .sl 1 (List.map Qf o3.Stmt.Index.Coeffs), .sl 2 (List.map Qq o3.Stmt.Facts)]), (6, .cp [.int .i64 o3.Stmt.Kind]), (7, .int .i64 o3.Stmt.Kind), (8, .bool (!decide (o3.Stmt.Kind = (1 : Int)))), (11, .cp [.int .i64 o3.Stmt.Kind, .int .i64 o3.Stmt.Var, .int .i64 o3.Stmt.Event, .int .i64 o3.Stmt.Sum.Const, .sl 1 (List.map Qf o3.Stmt.Sum.Coeffs), .int .i64 o3.Stmt.Index.Const, .sl 1 (List.map Qf o3.Stmt.Index.Coeffs), .sl 2 (List.map Qq o3.Stmt.Facts), .int .i64 o3.at_, .sl 1 (List.map Qg o3.kids)]), (12, .cp [.int .i64 o3.Stmt.Kind, .int .i64 o3.Stmt.Var, .int .i64 o3.Stmt.Event, .int .i64 o3.Stmt.Sum.Const, .sl 1 (List.map Qf o3.Stmt.Sum.Coeffs), .int .i64 o3.Stmt.Index.Const, .sl 1 (List.map Qf o3.Stmt.Index.Coeffs), .sl 2 (List.map Qq o3.Stmt.Facts), .int .i64 o3.at_, .sl 1 (List.map Qg o3.kids)]), (13, .cp [.sl 1 (List.map Qg o3.kids)]), (14, .sl 1 (List.map Qg o3.kids)), (15, .cp [Qg x15]), (16, Qg x15), (18, .cp [.int .i64 o3.Stmt.Kind, .int .i64 o3.Stmt.Var, .int .i64 o3.Stmt.Event, .int .i64 o3.Stmt.Sum.Const, .sl 1 (List.map Qf o3.Stmt.Sum.Coeffs), .int .i64 o3.Stmt.Index.Const, .sl 1 (List.map Qf o3.Stmt.Index.Coeffs), .sl 2 (List.map Qq o3.Stmt.Facts), .int .i64 o3.at_, .sl 1 (List.map Qg o3.kids)]), (19, .cp [.int .i64 o3.Stmt.Kind, .int .i64 o3.Stmt.Var, .int .i64 o3.Stmt.Event, .int .i64 o3.Stmt.Sum.Const, .sl 1 (List.map Qf o3.Stmt.Sum.Coeffs), .int .i64 o3.Stmt.Index.Const, .sl 1 (List.map Qf o3.Stmt.Index.Coeffs), .sl 2 (List.map Qq o3.Stmt.Facts), .int .i64 o3.at_, .sl 1 (List.map Qg o3.kids)]), (20, .cp [.sl 1 (List.map Qg o3.kids)])], []⟩ ?_ (fun hS11_4 => ?_)
  ·refine TZ_each [6, 10] (by kernel_rfl) rfl ?_
   refine ⟨?_, ?_⟩
   ·refine ⟨_, rfl, ?_⟩
    refine TLE_call [] [(1000, 572)] [] (hrec_impl_tree_parts x15 r17 hr17) (fun _ => rfl) Try.call99 rfl rfl rfl rfl rfl trivial rfl rfl rfl rfl rfl rfl rfl rfl rfl rfl rfl ?_
    refine Qe ?_
    refine QU [0, 2, 3, 4, 5, 6, 7, 8, 11, 12, 13, 14, 15, 16, 17, 18, 19, 20] [572] rfl rfl rfl rfl (by rw [hF]; rfl) ?_
    exact hS11_0
   ·refine ⟨_, rfl, ?_⟩
    refine Qa rfl rfl rfl rfl (Qj ag129 rfl rfl) ?_
    refine Qe ?_
    refine QU [0, 2, 3, 4, 5, 6, 7, 8, 11, 12, 13, 14, 15, 16, 18, 19, 20, 21] [] rfl rfl rfl rfl (by rw [hF]; rfl) ?_
    exact hS11_3
  refine XD 5 [true, true, true, true, true, true, false, true, true, true, true, true, false, false, false, false] ⟨[(0, Qg p0), (2, .snil), (3, .cp [.int .i64 o3.Stmt.Kind, .int .i64 o3.Stmt.Var, .int .i64 o3.Stmt.Event, .int .i64 o3.Stmt.Sum.Const, .sl 1 (List.map Qf o3.Stmt.Sum.Coeffs), .int .i64 o3.Stmt.Index.Const, .sl 1 (List.map Qf o3.Stmt.Index.Coeffs), .sl 2 (List.map Qq o3.Stmt.Facts), .int .i64 o3.at_, .sl 1 (List.map Qg o3.kids)]), (4, .cp [.int .i64 o3.Stmt.Kind, .int .i64 o3.Stmt.Var, .int .i64 o3.Stmt.Event, .int .i64 o3.Stmt.Sum.Const, .sl 1 (List.map Qf o3.Stmt.Sum.Coeffs), .int .i64 o3.Stmt.Index.Const, .sl 1 (List.map Qf o3.Stmt.Index.Coeffs), .sl 2 (List.map Qq o3.Stmt.Facts), .int .i64 o3.at_, .sl 1 (List.map Qg o3.kids)]), (5, .cp [.int .i64 o3.Stmt.Kind, .int .i64 o3.Stmt.Var, .int .i64 o3.Stmt.Event, .int .i64 o3.Stmt.Sum.Const, .sl 1 (List.map Qf o3.Stmt.Sum.Coeffs), .int .i64 o3.Stmt.Index.Const, .sl 1 (List.map Qf o3.Stmt.Index.Coeffs), .sl 2 (List.map Qq o3.Stmt.Facts)]), (6, .cp [.int .i64 o3.Stmt.Kind]), (7, .int .i64 o3.Stmt.Kind), (8, .bool (!decide (o3.Stmt.Kind = (1 : Int)))), (11, .cp [.int .i64 o3.Stmt.Kind, .int .i64 o3.Stmt.Var, .int .i64 o3.Stmt.Event, .int .i64 o3.Stmt.Sum.Const, .sl 1 (List.map Qf o3.Stmt.Sum.Coeffs), .int .i64 o3.Stmt.Index.Const, .sl 1 (List.map Qf o3.Stmt.Index.Coeffs), .sl 2 (List.map Qq o3.Stmt.Facts), .int .i64 o3.at_, .sl 1 (List.map Qg o3.kids)]), (12, .cp [.int .i64 o3.Stmt.Kind, .int .i64 o3.Stmt.Var, .int .i64 o3.Stmt.Event, .int .i64 o3.Stmt.Sum.Const, .sl 1 (List.map Qf o3.Stmt.Sum.Coeffs), .int .i64 o3.Stmt.Index.Const, .sl 1 (List.map Qf o3.Stmt.Index.Coeffs), .sl 2 (List.map Qq o3.Stmt.Facts), .int .i64 o3.at_, .sl 1 (List.map Qg o3.kids)]), (13, .cp [.sl 1 (List.map Qg o3.kids)]), (14, .sl 1 (List.map Qg o3.kids)), (15, .cp [Qg x15]), (16, Qg x15), (18, .cp [.int .i64 o3.Stmt.Kind, .int .i64 o3.Stmt.Var, .int .i64 o3.Stmt.Event, .int .i64 o3.Stmt.Sum.Const, .sl 1 (List.map Qf o3.Stmt.Sum.Coeffs), .int .i64 o3.Stmt.Index.Const, .sl 1 (List.map Qf o3.Stmt.Index.Coeffs), .sl 2 (List.map Qq o3.Stmt.Facts), .int .i64 o3.at_, .sl 1 (List.map Qg o3.kids)]), (19, .cp [.int .i64 o3.Stmt.Kind, .int .i64 o3.Stmt.Var, .int .i64 o3.Stmt.Event, .int .i64 o3.Stmt.Sum.Const, .sl 1 (List.map Qf o3.Stmt.Sum.Coeffs), .int .i64 o3.Stmt.Index.Const, .sl 1 (List.map Qf o3.Stmt.Index.Coeffs), .sl 2 (List.map Qq o3.Stmt.Facts), .int .i64 o3.at_, .sl 1 (List.map Qg o3.kids)]), (20, .cp [.sl 1 (List.map Qg o3.kids)]), (21, .sl 1 (List.map Qg o3.kids)), (22, .cp [Qg x22])], []⟩ ?_ (fun hS11_5 => ?_)
  ·refine TZ_each [6, 12] (by kernel_rfl) rfl ?_
   refine ⟨?_, ?_⟩
   ·refine ⟨_, rfl, ?_⟩
    refine TLE_call [] [(1000, 572)] [] (hrec_impl_tree_parts x15 r17 hr17) (fun _ => rfl) Try.call99 rfl rfl rfl rfl rfl trivial rfl rfl rfl rfl rfl rfl rfl rfl rfl rfl rfl ?_
    refine Qe ?_
    refine QU [0, 2, 3, 4, 5, 6, 7, 8, 11, 12, 13, 14, 15, 16, 17, 18, 19, 20, 21, 22] [572] rfl rfl rfl rfl (by rw [hF]; rfl) ?_
    exact hS11_1
   ·refine ⟨_, rfl, ?_⟩
    refine Qa rfl rfl rfl rfl (Qj ag88 rfl rfl) ?_
    refine Qe ?_
    refine QU [0, 2, 3, 4, 5, 6, 7, 8, 11, 12, 13, 14, 15, 16, 18, 19, 20, 21, 22, 23] [] rfl rfl rfl rfl (by rw [hF]; rfl) ?_
    exact hS11_2
  refine XD 5 [true, true, true, true, true, false, false, true, true, true, true, true, true, false, false, false] ⟨[(0, Qg p0), (2, .snil), (3, .cp [.int .i64 o3.Stmt.Kind, .int .i64 o3.Stmt.Var, .int .i64 o3.Stmt.Event, .int .i64 o3.Stmt.Sum.Const, .sl 1 (List.map Qf o3.Stmt.Sum.Coeffs), .int .i64 o3.Stmt.Index.Const, .sl 1 (List.map Qf o3.Stmt.Index.Coeffs), .sl 2 (List.map Qq o3.Stmt.Facts), .int .i64 o3.at_, .sl 1 (List.map Qg o3.kids)]), (4, .cp [.int .i64 o3.Stmt.Kind, .int .i64 o3.Stmt.Var, .int .i64 o3.Stmt.Event, .int .i64 o3.Stmt.Sum.Const, .sl 1 (List.map Qf o3.Stmt.Sum.Coeffs), .int .i64 o3.Stmt.Index.Const, .sl 1 (List.map Qf o3.Stmt.Index.Coeffs), .sl 2 (List.map Qq o3.Stmt.Facts), .int .i64 o3.at_, .sl 1 (List.map Qg o3.kids)]), (5, .cp [.int .i64 o3.Stmt.Kind, .int .i64 o3.Stmt.Var, .int .i64 o3.Stmt.Event, .int .i64 o3.Stmt.Sum.Const, .sl 1 (List.map Qf o3.Stmt.Sum.Coeffs), .int .i64 o3.Stmt.Index.Const, .sl 1 (List.map Qf o3.Stmt.Index.Coeffs), .sl 2 (List.map Qq o3.Stmt.Facts)]), (6, .cp [.int .i64 o3.Stmt.Kind]), (7, .int .i64 o3.Stmt.Kind), (8, .bool (!decide (o3.Stmt.Kind = (1 : Int)))), (11, .cp [.int .i64 o3.Stmt.Kind, .int .i64 o3.Stmt.Var, .int .i64 o3.Stmt.Event, .int .i64 o3.Stmt.Sum.Const, .sl 1 (List.map Qf o3.Stmt.Sum.Coeffs), .int .i64 o3.Stmt.Index.Const, .sl 1 (List.map Qf o3.Stmt.Index.Coeffs), .sl 2 (List.map Qq o3.Stmt.Facts), .int .i64 o3.at_, .sl 1 (List.map Qg o3.kids)]), (12, .cp [.int .i64 o3.Stmt.Kind, .int .i64 o3.Stmt.Var, .int .i64 o3.Stmt.Event, .int .i64 o3.Stmt.Sum.Const, .sl 1 (List.map Qf o3.Stmt.Sum.Coeffs), .int .i64 o3.Stmt.Index.Const, .sl 1 (List.map Qf o3.Stmt.Index.Coeffs), .sl 2 (List.map Qq o3.Stmt.Facts), .int .i64 o3.at_, .sl 1 (List.map Qg o3.kids)]), (13, .cp [.sl 1 (List.map Qg o3.kids)]), (14, .sl 1 (List.map Qg o3.kids)), (15, .cp [Qg x15]), (18, .cp [.int .i64 o3.Stmt.Kind, .int .i64 o3.Stmt.Var, .int .i64 o3.Stmt.Event, .int .i64 o3.Stmt.Sum.Const, .sl 1 (List.map Qf o3.Stmt.Sum.Coeffs), .int .i64 o3.Stmt.Index.Const, .sl 1 (List.map Qf o3.Stmt.Index.Coeffs), .sl 2 (List.map Qq o3.Stmt.Facts), .int .i64 o3.at_, .sl 1 (List.map Qg o3.kids)]), (19, .cp [.int .i64 o3.Stmt.Kind, .int .i64 o3.Stmt.Var, .int .i64 o3.Stmt.Event, .int .i64 o3.Stmt.Sum.Const, .sl 1 (List.map Qf o3.Stmt.Sum.Coeffs), .int .i64 o3.Stmt.Index.Const, .sl 1 (List.map Qf o3.Stmt.Index.Coeffs), .sl 2 (List.map Qq o3.Stmt.Facts), .int .i64 o3.at_, .sl 1 (List.map Qg o3.kids)]), (20, .cp [.sl 1 (List.map Qg o3.kids)]), (21, .sl 1 (List.map Qg o3.kids)), (22, .cp [Qg x22]), (23, Qg x22)], []⟩ ?_ (fun hS11_6 => ?_)
  ·refine QF 5 (by kernel_rfl) rfl ?_
   refine Qa rfl rfl rfl rfl (Qj ag88 rfl rfl) ?_
   refine Qe ?_
   refine QF 6 (by kernel_rfl) rfl ?_
   refine TLE_call [] [(1000, 572)] [] (hrec_impl_tree_parts x15 r17 hr17) (fun _ => rfl) Try.call99 rfl rfl rfl rfl rfl trivial rfl rfl rfl rfl rfl rfl rfl rfl rfl rfl rfl ?_
   refine Qe ?_
   refine QF 13 (by kernel_rfl) rfl ?_
   refine TLE_call [] [(1000, 1132)] [] (hrec_impl_tree_parts x22 r24 hr24) (fun _ => rfl) Try.call99 rfl rfl rfl rfl rfl trivial rfl rfl rfl rfl rfl rfl rfl rfl rfl rfl rfl ?_
   refine Qe ?_
   refine QF 14 (by kernel_rfl) rfl ?_
   refine Xc (f := Qg) (a := r17) (b := r24) el129 z88 rfl rfl rfl rfl rfl rfl rfl (Xa hq25) rfl rfl rfl rfl rfl ?_
   refine Qe ?_
   refine Ql 15 (by kernel_rfl) rfl rfl rfl rfl rfl (Qb rfl) ?_
   refine Q8 (by kernel_rfl) ?_
   refine Qo [2] [572] rfl rfl rfl rfl (by rw [hF]; rfl) ?_
   refine T_ren [(572, 1000)] rfl rfl rfl (by rw [hF]; rfl) ?_
   refine QB ?_
   obtain rfl := Qw hm
   refine ⟨[_], [1000], ⟨rfl, trivial⟩, ?_, rfl, rfl, rfl, rfl⟩
   rfl
  refine XD 7 [true, true, true, true, true, false, false, true, true, true, true, false, false, false, false, false] ⟨[(0, Qg p0), (2, .snil), (3, .cp [.int .i64 o3.Stmt.Kind, .int .i64 o3.Stmt.Var, .int .i64 o3.Stmt.Event, .int .i64 o3.Stmt.Sum.Const, .sl 1 (List.map Qf o3.Stmt.Sum.Coeffs), .int .i64 o3.Stmt.Index.Const, .sl 1 (List.map Qf o3.Stmt.Index.Coeffs), .sl 2 (List.map Qq o3.Stmt.Facts), .int .i64 o3.at_, .sl 1 (List.map Qg o3.kids)]), (4, .cp [.int .i64 o3.Stmt.Kind, .int .i64 o3.Stmt.Var, .int .i64 o3.Stmt.Event, .int .i64 o3.Stmt.Sum.Const, .sl 1 (List.map Qf o3.Stmt.Sum.Coeffs), .int .i64 o3.Stmt.Index.Const, .sl 1 (List.map Qf o3.Stmt.Index.Coeffs), .sl 2 (List.map Qq o3.Stmt.Facts), .int .i64 o3.at_, .sl 1 (List.map Qg o3.kids)]), (5, .cp [.int .i64 o3.Stmt.Kind, .int .i64 o3.Stmt.Var, .int .i64 o3.Stmt.Event, .int .i64 o3.Stmt.Sum.Const, .sl 1 (List.map Qf o3.Stmt.Sum.Coeffs), .int .i64 o3.Stmt.Index.Const, .sl 1 (List.map Qf o3.Stmt.Index.Coeffs), .sl 2 (List.map Qq o3.Stmt.Facts)]), (6, .cp [.int .i64 o3.Stmt.Kind]), (7, .int .i64 o3.Stmt.Kind), (8, .bool (!decide (o3.Stmt.Kind = (1 : Int)))), (11, .cp [.int .i64 o3.Stmt.Kind, .int .i64 o3.Stmt.Var, .int .i64 o3.Stmt.Event, .int .i64 o3.Stmt.Sum.Const, .sl 1 (List.map Qf o3.Stmt.Sum.Coeffs), .int .i64 o3.Stmt.Index.Const, .sl 1 (List.map Qf o3.Stmt.Index.Coeffs), .sl 2 (List.map Qq o3.Stmt.Facts), .int .i64 o3.at_, .sl 1 (List.map Qg o3.kids)]), (12, .cp [.int .i64 o3.Stmt.Kind, .int .i64 o3.Stmt.Var, .int .i64 o3.Stmt.Event, .int .i64 o3.Stmt.Sum.Const, .sl 1 (List.map Qf o3.Stmt.Sum.Coeffs), .int .i64 o3.Stmt.Index.Const, .sl 1 (List.map Qf o3.Stmt.Index.Coeffs), .sl 2 (List.map Qq o3.Stmt.Facts), .int .i64 o3.at_, .sl 1 (List.map Qg o3.kids)]), (13, .cp [.sl 1 (List.map Qg o3.kids)]), (14, .sl 1 (List.map Qg o3.kids)), (15, .cp [Qg x15]), (18, .cp [.int .i64 o3.Stmt.Kind, .int .i64 o3.Stmt.Var, .int .i64 o3.Stmt.Event, .int .i64 o3.Stmt.Sum.Const, .sl 1 (List.map Qf o3.Stmt.Sum.Coeffs), .int .i64 o3.Stmt.Index.Const, .sl 1 (List.map Qf o3.Stmt.Index.Coeffs), .sl 2 (List.map Qq o3.Stmt.Facts), .int .i64 o3.at_, .sl 1 (List.map Qg o3.kids)]), (19, .cp [.int .i64 o3.Stmt.Kind, .int .i64 o3.Stmt.Var, .int .i64 o3.Stmt.Event, .int .i64 o3.Stmt.Sum.Const, .sl 1 (List.map Qf o3.Stmt.Sum.Coeffs), .int .i64 o3.Stmt.Index.Const, .sl 1 (List.map Qf o3.Stmt.Index.Coeffs), .sl 2 (List.map Qq o3.Stmt.Facts), .int .i64 o3.at_, .sl 1 (List.map Qg o3.kids)]), (20, .cp [.sl 1 (List.map Qg o3.kids)]), (21, .sl 1 (List.map Qg o3.kids))], []⟩ ?_ (fun hS11_7 => ?_)
  ·refine Ql 11 (by kernel_rfl) rfl rfl rfl rfl rfl (Xi el129 rfl rfl hx22 rfl) ?_
   refine TZ_each [5, 12] (by kernel_rfl) rfl ?_
   refine ⟨?_, ?_⟩
   ·refine ⟨_, rfl, ?_⟩
    refine Qa rfl rfl rfl rfl (Qj ag88 rfl rfl) ?_
    refine Qe ?_
    refine QU [0, 2, 3, 4, 5, 6, 7, 8, 11, 12, 13, 14, 15, 16, 18, 19, 20, 21, 22] [] rfl rfl rfl rfl (by rw [hF]; rfl) ?_
    exact hS11_5
   ·refine ⟨_, rfl, ?_⟩
    refine Qa rfl rfl rfl rfl (Qj ag88 rfl rfl) ?_
    refine Qe ?_
    refine QU [0, 2, 3, 4, 5, 6, 7, 8, 11, 12, 13, 14, 15, 18, 19, 20, 21, 22, 23] [] rfl rfl rfl rfl (by rw [hF]; rfl) ?_
    exact hS11_6
  refine XD 9 [true, true, true, true, false, false, false, true, true, true, false, false, false, false, false, false] ⟨[(0, Qg p0), (2, .snil), (3, .cp [.int .i64 o3.Stmt.Kind, .int .i64 o3.Stmt.Var, .int .i64 o3.Stmt.Event, .int .i64 o3.Stmt.Sum.Const, .sl 1 (List.map Qf o3.Stmt.Sum.Coeffs), .int .i64 o3.Stmt.Index.Const, .sl 1 (List.map Qf o3.Stmt.Index.Coeffs), .sl 2 (List.map Qq o3.Stmt.Facts), .int .i64 o3.at_, .sl 1 (List.map Qg o3.kids)]), (4, .cp [.int .i64 o3.Stmt.Kind, .int .i64 o3.Stmt.Var, .int .i64 o3.Stmt.Event, .int .i64 o3.Stmt.Sum.Const, .sl 1 (List.map Qf o3.Stmt.Sum.Coeffs), .int .i64 o3.Stmt.Index.Const, .sl 1 (List.map Qf o3.Stmt.Index.Coeffs), .sl 2 (List.map Qq o3.Stmt.Facts), .int .i64 o3.at_, .sl 1 (List.map Qg o3.kids)]), (5, .cp [.int .i64 o3.Stmt.Kind, .int .i64 o3.Stmt.Var, .int .i64 o3.Stmt.Event, .int .i64 o3.Stmt.Sum.Const, .sl 1 (List.map Qf o3.Stmt.Sum.Coeffs), .int .i64 o3.Stmt.Index.Const, .sl 1 (List.map Qf o3.Stmt.Index.Coeffs), .sl 2 (List.map Qq o3.Stmt.Facts)]), (6, .cp [.int .i64 o3.Stmt.Kind]), (7, .int .i64 o3.Stmt.Kind), (8, .bool (!decide (o3.Stmt.Kind = (1 : Int)))), (11, .cp [.int .i64 o3.Stmt.Kind, .int .i64 o3.Stmt.Var, .int .i64 o3.Stmt.Event, .int .i64 o3.Stmt.Sum.Const, .sl 1 (List.map Qf o3.Stmt.Sum.Coeffs), .int .i64 o3.Stmt.Index.Const, .sl 1 (List.map Qf o3.Stmt.Index.Coeffs), .sl 2 (List.map Qq o3.Stmt.Facts), .int .i64 o3.at_, .sl 1 (List.map Qg o3.kids)]), (12, .cp [.int .i64 o3.Stmt.Kind, .int .i64 o3.Stmt.Var, .int .i64 o3.Stmt.Event, .int .i64 o3.Stmt.Sum.Const, .sl 1 (List.map Qf o3.Stmt.Sum.Coeffs), .int .i64 o3.Stmt.Index.Const, .sl 1 (List.map Qf o3.Stmt.Index.Coeffs), .sl 2 (List.map Qq o3.Stmt.Facts), .int .i64 o3.at_, .sl 1 (List.map Qg o3.kids)]), (13, .cp [.sl 1 (List.map Qg o3.kids)]), (14, .sl 1 (List.map Qg o3.kids)), (18, .cp [.int .i64 o3.Stmt.Kind, .int .i64 o3.Stmt.Var, .int .i64 o3.Stmt.Event, .int .i64 o3.Stmt.Sum.Const, .sl 1 (List.map Qf o3.Stmt.Sum.Coeffs), .int .i64 o3.Stmt.Index.Const, .sl 1 (List.map Qf o3.Stmt.Index.Coeffs), .sl 2 (List.map Qq o3.Stmt.Facts), .int .i64 o3.at_, .sl 1 (List.map Qg o3.kids)]), (19, .cp [.int .i64 o3.Stmt.Kind, .int .i64 o3.Stmt.Var, .int .i64 o3.Stmt.Event, .int .i64 o3.Stmt.Sum.Const, .sl 1 (List.map Qf o3.Stmt.Sum.Coeffs), .int .i64 o3.Stmt.Index.Const, .sl 1 (List.map Qf o3.Stmt.Index.Coeffs), .sl 2 (List.map Qq o3.Stmt.Facts), .int .i64 o3.at_, .sl 1 (List.map Qg o3.kids)]), (20, .cp [.sl 1 (List.map Qg o3.kids)])], []⟩ ?_ (fun hS11_8 => ?_)
  ·refine Ql 4 (by kernel_rfl) rfl rfl rfl rfl rfl (Xi el129 rfl rfl hx15 rfl) ?_
   refine TZ_each [5, 10] (by kernel_rfl) rfl ?_
   refine ⟨?_, ?_⟩
   ·refine ⟨_, rfl, ?_⟩
    refine Qa rfl rfl rfl rfl (Qj ag88 rfl rfl) ?_
    refine Qe ?_
    refine QU [0, 2, 3, 4, 5, 6, 7, 8, 11, 12, 13, 14, 15, 16, 18, 19, 20] [] rfl rfl rfl rfl (by rw [hF]; rfl) ?_
    exact hS11_4
   ·refine ⟨_, rfl, ?_⟩
    refine Qa rfl rfl rfl rfl (Qj ag129 rfl rfl) ?_
    refine Qe ?_
    refine QU [0, 2, 3, 4, 5, 6, 7, 8, 11, 12, 13, 14, 15, 18, 19, 20, 21] [] rfl rfl rfl rfl (by rw [hF]; rfl) ?_
    exact hS11_7
  refine XD 7 [true, true, true, true, false, false, false, true, true, true, true, true, false, false, false, false] ⟨[(0, Qg p0), (2, .snil), (3, .cp [.int .i64 o3.Stmt.Kind, .int .i64 o3.Stmt.Var, .int .i64 o3.Stmt.Event, .int .i64 o3.Stmt.Sum.Const, .sl 1 (List.map Qf o3.Stmt.Sum.Coeffs), .int .i64 o3.Stmt.Index.Const, .sl 1 (List.map Qf o3.Stmt.Index.Coeffs), .sl 2 (List.map Qq o3.Stmt.Facts), .int .i64 o3.at_, .sl 1 (List.map Qg o3.kids)]), (4, .cp [.int .i64 o3.Stmt.Kind, .int .i64 o3.Stmt.Var, .int .i64 o3.Stmt.Event, .int .i64 o3.Stmt.Sum.Const, .sl 1 (List.map Qf o3.Stmt.Sum.Coeffs), .int .i64 o3.Stmt.Index.Const, .sl 1 (List.map Qf o3.Stmt.Index.Coeffs), .sl 2 (List.map Qq o3.Stmt.Facts), .int .i64 o3.at_, .sl 1 (List.map Qg o3.kids)]), (5, .cp [.int .i64 o3.Stmt.Kind, .int .i64 o3.Stmt.Var, .int .i64 o3.Stmt.Event, .int .i64 o3.Stmt.Sum.Const, .sl 1 (List.map Qf o3.Stmt.Sum.Coeffs), .int .i64 o3.Stmt.Index.Const, .sl 1 (List.map Qf o3.Stmt.Index.Coeffs), .sl 2 (List.map Qq o3.Stmt.Facts)]), (6, .cp [.int .i64 o3.Stmt.Kind]), (7, .int .i64 o3.Stmt.Kind), (8, .bool (!decide (o3.Stmt.Kind = (1 : Int)))), (11, .cp [.int .i64 o3.Stmt.Kind, .int .i64 o3.Stmt.Var, .int .i64 o3.Stmt.Event, .int .i64 o3.Stmt.Sum.Const, .sl 1 (List.map Qf o3.Stmt.Sum.Coeffs), .int .i64 o3.Stmt.Index.Const, .sl 1 (List.map Qf o3.Stmt.Index.Coeffs), .sl 2 (List.map Qq o3.Stmt.Facts), .int .i64 o3.at_, .sl 1 (List.map Qg o3.kids)]), (12, .cp [.int .i64 o3.Stmt.Kind, .int .i64 o3.Stmt.Var, .int .i64 o3.Stmt.Event, .int .i64 o3.Stmt.Sum.Const, .sl 1 (List.map Qf o3.Stmt.Sum.Coeffs), .int .i64 o3.Stmt.Index.Const, .sl 1 (List.map Qf o3.Stmt.Index.Coeffs), .sl 2 (List.map Qq o3.Stmt.Facts), .int .i64 o3.at_, .sl 1 (List.map Qg o3.kids)]), (13, .cp [.sl 1 (List.map Qg o3.kids)]), (14, .sl 1 (List.map Qg o3.kids)), (18, .cp [.int .i64 o3.Stmt.Kind, .int .i64 o3.Stmt.Var, .int .i64 o3.Stmt.Event, .int .i64 o3.Stmt.Sum.Const, .sl 1 (List.map Qf o3.Stmt.Sum.Coeffs), .int .i64 o3.Stmt.Index.Const, .sl 1 (List.map Qf o3.Stmt.Index.Coeffs), .sl 2 (List.map Qq o3.Stmt.Facts), .int .i64 o3.at_, .sl 1 (List.map Qg o3.kids)]), (19, .cp [.int .i64 o3.Stmt.Kind, .int .i64 o3.Stmt.Var, .int .i64 o3.Stmt.Event, .int .i64 o3.Stmt.Sum.Const, .sl 1 (List.map Qf o3.Stmt.Sum.Coeffs), .int .i64 o3.Stmt.Index.Const, .sl 1 (List.map Qf o3.Stmt.Index.Coeffs), .sl 2 (List.map Qq o3.Stmt.Facts), .int .i64 o3.at_, .sl 1 (List.map Qg o3.kids)]), (20, .cp [.sl 1 (List.map Qg o3.kids)]), (21, .sl 1 (List.map Qg o3.kids)), (22, .cp [Qg x22])], []⟩ ?_ (fun hS11_9 => ?_)
  ·refine Ql 4 (by kernel_rfl) rfl rfl rfl rfl rfl (Xi el129 rfl rfl hx15 rfl) ?_
   refine TZ_each [5, 12] (by kernel_rfl) rfl ?_
   refine ⟨?_, ?_⟩
   ·refine ⟨_, rfl, ?_⟩
    refine Qa rfl rfl rfl rfl (Qj ag88 rfl rfl) ?_
    refine Qe ?_
    refine QU [0, 2, 3, 4, 5, 6, 7, 8, 11, 12, 13, 14, 15, 16, 18, 19, 20, 21, 22] [] rfl rfl rfl rfl (by rw [hF]; rfl) ?_
    exact hS11_5
   ·refine ⟨_, rfl, ?_⟩
    refine Qa rfl rfl rfl rfl (Qj ag88 rfl rfl) ?_
    refine Qe ?_
    refine QU [0, 2, 3, 4, 5, 6, 7, 8, 11, 12, 13, 14, 15, 18, 19, 20, 21, 22, 23] [] rfl rfl rfl rfl (by rw [hF]; rfl) ?_
    exact hS11_6
  refine XD 7 [true, true, true, false, false, false, false, true, true, true, true, true, true, false, false, false] ⟨[(0, Qg p0), (2, .snil), (3, .cp [.int .i64 o3.Stmt.Kind, .int .i64 o3.Stmt.Var, .int .i64 o3.Stmt.Event, .int .i64 o3.Stmt.Sum.Const, .sl 1 (List.map Qf o3.Stmt.Sum.Coeffs), .int .i64 o3.Stmt.Index.Const, .sl 1 (List.map Qf o3.Stmt.Index.Coeffs), .sl 2 (List.map Qq o3.Stmt.Facts), .int .i64 o3.at_, .sl 1 (List.map Qg o3.kids)]), (4, .cp [.int .i64 o3.Stmt.Kind, .int .i64 o3.Stmt.Var, .int .i64 o3.Stmt.Event, .int .i64 o3.Stmt.Sum.Const, .sl 1 (List.map Qf o3.Stmt.Sum.Coeffs), .int .i64 o3.Stmt.Index.Const, .sl 1 (List.map Qf o3.Stmt.Index.Coeffs), .sl 2 (List.map Qq o3.Stmt.Facts), .int .i64 o3.at_, .sl 1 (List.map Qg o3.kids)]), (5, .cp [.int .i64 o3.Stmt.Kind, .int .i64 o3.Stmt.Var, .int .i64 o3.Stmt.Event, .int .i64 o3.Stmt.Sum.Const, .sl 1 (List.map Qf o3.Stmt.Sum.Coeffs), .int .i64 o3.Stmt.Index.Const, .sl 1 (List.map Qf o3.Stmt.Index.Coeffs), .sl 2 (List.map Qq o3.Stmt.Facts)]), (6, .cp [.int .i64 o3.Stmt.Kind]), (7, .int .i64 o3.Stmt.Kind), (8, .bool (!decide (o3.Stmt.Kind = (1 : Int)))), (11, .cp [.int .i64 o3.Stmt.Kind, .int .i64 o3.Stmt.Var, .int .i64 o3.Stmt.Event, .int .i64 o3.Stmt.Sum.Const, .sl 1 (List.map Qf o3.Stmt.Sum.Coeffs), .int .i64 o3.Stmt.Index.Const, .sl 1 (List.map Qf o3.Stmt.Index.Coeffs), .sl 2 (List.map Qq o3.Stmt.Facts), .int .i64 o3.at_, .sl 1 (List.map Qg o3.kids)]), (12, .cp [.int .i64 o3.Stmt.Kind, .int .i64 o3.Stmt.Var, .int .i64 o3.Stmt.Event, .int .i64 o3.Stmt.Sum.Const, .sl 1 (List.map Qf o3.Stmt.Sum.Coeffs), .int .i64 o3.Stmt.Index.Const, .sl 1 (List.map Qf o3.Stmt.Index.Coeffs), .sl 2 (List.map Qq o3.Stmt.Facts), .int .i64 o3.at_, .sl 1 (List.map Qg o3.kids)]), (13, .cp [.sl 1 (List.map Qg o3.kids)]), (18, .cp [.int .i64 o3.Stmt.Kind, .int .i64 o3.Stmt.Var, .int .i64 o3.Stmt.Event, .int .i64 o3.Stmt.Sum.Const, .sl 1 (List.map Qf o3.Stmt.Sum.Coeffs), .int .i64 o3.Stmt.Index.Const, .sl 1 (List.map Qf o3.Stmt.Index.Coeffs), .sl 2 (List.map Qq o3.Stmt.Facts), .int .i64 o3.at_, .sl 1 (List.map Qg o3.kids)]), (19, .cp [.int .i64 o3.Stmt.Kind, .int .i64 o3.Stmt.Var, .int .i64 o3.Stmt.Event, .int .i64 o3.Stmt.Sum.Const, .sl 1 (List.map Qf o3.Stmt.Sum.Coeffs), .int .i64 o3.Stmt.Index.Const, .sl 1 (List.map Qf o3.Stmt.Index.Coeffs), .sl 2 (List.map Qq o3.Stmt.Facts), .int .i64 o3.at_, .sl 1 (List.map Qg o3.kids)]), (20, .cp [.sl 1 (List.map Qg o3.kids)]), (21, .sl 1 (List.map Qg o3.kids)), (22, .cp [Qg x22]), (23, Qg x22)], []⟩ ?_ (fun hS11_10 => ?_)
  ·refine QF 3 (by kernel_rfl) rfl ?_
   refine Qa rfl rfl rfl rfl (Qj ag129 rfl rfl) ?_
   refine Qe ?_
   refine Ql 4 (by kernel_rfl) rfl rfl rfl rfl rfl (Xi el129 rfl rfl hx15 rfl) ?_
   refine QF 5 (by kernel_rfl) rfl ?_
   refine Qa rfl rfl rfl rfl (Qj ag88 rfl rfl) ?_
   refine Qe ?_
   refine QF 6 (by kernel_rfl) rfl ?_
   refine TLE_call [] [(1000, 572)] [] (hrec_impl_tree_parts x15 r17 hr17) (fun _ => rfl) Try.call99 rfl rfl rfl rfl rfl trivial rfl rfl rfl rfl rfl rfl rfl rfl rfl rfl rfl ?_
   refine Qe ?_
   refine QF 13 (by kernel_rfl) rfl ?_
   refine TLE_call [] [(1000, 1132)] [] (hrec_impl_tree_parts x22 r24 hr24) (fun _ => rfl) Try.call99 rfl rfl rfl rfl rfl trivial rfl rfl rfl rfl rfl rfl rfl rfl rfl rfl rfl ?_
   refine Qe ?_
   refine QF 14 (by kernel_rfl) rfl ?_
   refine Xc (f := Qg) (a := r17) (b := r24) el129 z88 rfl rfl rfl rfl rfl rfl rfl (Xa hq25) rfl rfl rfl rfl rfl ?_
   refine Qe ?_
   refine Ql 15 (by kernel_rfl) rfl rfl rfl rfl rfl (Qb rfl) ?_
   refine Q8 (by kernel_rfl) ?_
   refine Qo [2] [572] rfl rfl rfl rfl (by rw [hF]; rfl) ?_
   refine T_ren [(572, 1000)] rfl rfl rfl (by rw [hF]; rfl) ?_
   refine QB ?_
   obtain rfl := Qw hm
   refine ⟨[_], [1000], ⟨rfl, trivial⟩, ?_, rfl, rfl, rfl, rfl⟩
   rfl
  refine XD 9 [true, true, true, false, false, false, false, true, true, true, true, false, false, false, false, false] ⟨[(0, Qg p0), (2, .snil), (3, .cp [.int .i64 o3.Stmt.Kind, .int .i64 o3.Stmt.Var, .int .i64 o3.Stmt.Event, .int .i64 o3.Stmt.Sum.Const, .sl 1 (List.map Qf o3.Stmt.Sum.Coeffs), .int .i64 o3.Stmt.Index.Const, .sl 1 (List.map Qf o3.Stmt.Index.Coeffs), .sl 2 (List.map Qq o3.Stmt.Facts), .int .i64 o3.at_, .sl 1 (List.map Qg o3.kids)]), (4, .cp [.int .i64 o3.Stmt.Kind, .int .i64 o3.Stmt.Var, .int .i64 o3.Stmt.Event, .int .i64 o3.Stmt.Sum.Const, .sl 1 (List.map Qf o3.Stmt.Sum.Coeffs), .int .i64 o3.Stmt.Index.Const, .sl 1 (List.map Qf o3.Stmt.Index.Coeffs), .sl 2 (List.map Qq o3.Stmt.Facts), .int .i64 o3.at_, .sl 1 (List.map Qg o3.kids)]), (5, .cp [.int .i64 o3.Stmt.Kind, .int .i64 o3.Stmt.Var, .int .i64 o3.Stmt.Event, .int .i64 o3.Stmt.Sum.Const, .sl 1 (List.map Qf o3.Stmt.Sum.Coeffs), .int .i64 o3.Stmt.Index.Const, .sl 1 (List.map Qf o3.Stmt.Index.Coeffs), .sl 2 (List.map Qq o3.Stmt.Facts)]), (6, .cp [.int .i64 o3.Stmt.Kind]), (7, .int .i64 o3.Stmt.Kind), (8, .bool (!decide (o3.Stmt.Kind = (1 : Int)))), (11, .cp [.int .i64 o3.Stmt.Kind, .int .i64 o3.Stmt.Var, .int .i64 o3.Stmt.Event, .int .i64 o3.Stmt.Sum.Const, .sl 1 (List.map Qf o3.Stmt.Sum.Coeffs), .int .i64 o3.Stmt.Index.Const, .sl 1 (List.map Qf o3.Stmt.Index.Coeffs), .sl 2 (List.map Qq o3.Stmt.Facts), .int .i64 o3.at_, .sl 1 (List.map Qg o3.kids)]), (12, .cp [.int .i64 o3.Stmt.Kind, .int .i64 o3.Stmt.Var, .int .i64 o3.Stmt.Event, .int .i64 o3.Stmt.Sum.Const, .sl 1 (List.map Qf o3.Stmt.Sum.Coeffs), .int .i64 o3.Stmt.Index.Const, .sl 1 (List.map Qf o3.Stmt.Index.Coeffs), .sl 2 (List.map Qq o3.Stmt.Facts), .int .i64 o3.at_, .sl 1 (List.map Qg o3.kids)]), (13, .cp [.sl 1 (List.map Qg o3.kids)]), (18, .cp [.int .i64 o3.Stmt.Kind, .int .i64 o3.Stmt.Var, .int .i64 o3.Stmt.Event, .int .i64 o3.Stmt.Sum.Const, .sl 1 (List.map Qf o3.Stmt.Sum.Coeffs), .int .i64 o3.Stmt.Index.Const, .sl 1 (List.map Qf o3.Stmt.Index.Coeffs), .sl 2 (List.map Qq o3.Stmt.Facts), .int .i64 o3.at_, .sl 1 (List.map Qg o3.kids)]), (19, .cp [.int .i64 o3.Stmt.Kind, .int .i64 o3.Stmt.Var, .int .i64 o3.Stmt.Event, .int .i64 o3.Stmt.Sum.Const, .sl 1 (List.map Qf o3.Stmt.Sum.Coeffs), .int .i64 o3.Stmt.Index.Const, .sl 1 (List.map Qf o3.Stmt.Index.Coeffs), .sl 2 (List.map Qq o3.Stmt.Facts), .int .i64 o3.at_, .sl 1 (List.map Qg o3.kids)]), (20, .cp [.sl 1 (List.map Qg o3.kids)]), (21, .sl 1 (List.map Qg o3.kids))], []⟩ ?_ (fun hS11_11 => ?_)
  ·refine Ql 11 (by kernel_rfl) rfl rfl rfl rfl rfl (Xi el129 rfl rfl hx22 rfl) ?_
   refine TZ_each [3, 12] (by kernel_rfl) rfl ?_
   refine ⟨?_, ?_⟩
   ·refine ⟨_, rfl, ?_⟩
    refine Qa rfl rfl rfl rfl (Qj ag129 rfl rfl) ?_
    refine Qe ?_
    refine QU [0, 2, 3, 4, 5, 6, 7, 8, 11, 12, 13, 14, 18, 19, 20, 21, 22] [] rfl rfl rfl rfl (by rw [hF]; rfl) ?_
    exact hS11_9
   ·refine ⟨_, rfl, ?_⟩
    refine Qa rfl rfl rfl rfl (Qj ag88 rfl rfl) ?_
    refine Qe ?_
    refine QU [0, 2, 3, 4, 5, 6, 7, 8, 11, 12, 13, 18, 19, 20, 21, 22, 23] [] rfl rfl rfl rfl (by rw [hF]; rfl) ?_
    exact hS11_10
  refine TZ_each [3, 10] (by kernel_rfl) rfl ?_
  refine ⟨?_, ?_⟩
  ·refine ⟨_, rfl, ?_⟩
   refine Qa rfl rfl rfl rfl (Qj ag129 rfl rfl) ?_
   refine Qe ?_
   refine QU [0, 2, 3, 4, 5, 6, 7, 8, 11, 12, 13, 14, 18, 19, 20] [] rfl rfl rfl rfl (by rw [hF]; rfl) ?_
   exact hS11_8
  ·refine ⟨_, rfl, ?_⟩
   refine Qa rfl rfl rfl rfl (Qj ag129 rfl rfl) ?_
   refine Qe ?_
   refine QU [0, 2, 3, 4, 5, 6, 7, 8, 11, 12, 13, 18, 19, 20, 21] [] rfl rfl rfl rfl (by rw [hF]; rfl) ?_
   exact hS11_11
theorem c_impl_tree_parts : ∀ (n : Nat) (p0 : Ptree) (out : List Ptree), m_impl_tree_parts n p0 = some out → ACall Try.prog 99 [Qg p0] [] (.ow 1000) [(1000, .arr ⟨false, false⟩ 1 88 (List.map Qg out))] := by
 intro n
 induction n with
 | zero => intro p0 out hm; cases hm
 | succ n ih => intro p0 out hm; exact c_impl_tree_parts_F (m_impl_tree_parts n) ih p0 out hm
theorem c_impl_joined_F (rec_impl_joined : (List Ptree) → Option Ptree) (hrec_impl_joined : ∀ (p0 : List Ptree) (out : Ptree), rec_impl_joined p0 = some out → ACall Try.prog 100 [.sl 1 (List.map Qg p0)] [] (Qg out) []) (p0 : List Ptree) (out : Ptree) (hm : m_impl_joined_F rec_impl_joined p0 = some out) : ACall Try.prog 100 [.sl 1 (List.map Qg p0)] [] (Qg out) [] := by
 refine ACall.intro Try.func100 rfl Try.ntmps100 rfl (fun F hF => ?_)
 unfold m_impl_joined_F at hm
 refine Qn ?_
 refine Qc ?_
 refine Qa rfl rfl rfl rfl (Qb rfl) ?_
 refine Qe ?_
 refine Qn ?_
 refine Qn ?_
 refine Qc ?_
 refine Qa rfl rfl rfl rfl (Qd rfl) ?_
 refine Qa rfl rfl rfl rfl (Xm Try.underlying129 rfl (List.length_map _)) ?_
 refine Xy (fun _ _ _ hr => RelP.slLen (i := 3) rfl hr) (fun hlen4 => ?_)
 rw [List.length_map] at hlen4
 refine Qa rfl rfl rfl rfl (Xq rfl rfl) ?_
 refine Qe ?_
 refine QI rfl (fun hq => ?_) (fun hq => ?_)
 ·replace hm := QO hq hm
  refine Qn ?_
  refine Qc ?_
  refine Qa rfl rfl rfl rfl (Qd rfl) ?_
  obtain ⟨x7, hx7, hm⟩ := Qv hm
  refine Qa rfl rfl rfl rfl (Xi el129 rfl rfl hx7 rfl) ?_
  refine Qa rfl rfl rfl rfl (Qj ag88 rfl rfl) ?_
  refine Qa rfl rfl rfl rfl (Qb rfl) ?_
  refine Qe ?_
  refine Qo [2] [] rfl rfl rfl rfl (by rw [hF]; rfl) ?_
  refine QB ?_
  obtain rfl := Qw hm
  refine ⟨[_], [], ⟨rfl, trivial⟩, ?_, rfl, rfl, rfl, rfl⟩
  rfl
 ·replace hm := QM hq hm
  refine QL ?_
  refine Qn ?_
  refine T_drawZ [7] mix (by kernel_rfl) rfl ?_
  obtain ⟨x11, hx11, hm⟩ := Qv hm
  obtain ⟨y14, hy14, hm⟩ := Qv hm
  obtain ⟨r15, hr15, hm⟩ := Qv hm
  refine Ql 0 (by kernel_rfl) rfl rfl rfl rfl rfl (Xn pl77 z77 rfl rfl rfl rfl rfl) ?_
  refine Ql 1 (by kernel_rfl) rfl rfl rfl rfl rfl (Qd rfl) ?_
  refine Ql 2 (by kernel_rfl) rfl rfl rfl rfl rfl (Xi el129 rfl rfl hx11 rfl) ?_
  refine Ql 3 (by kernel_rfl) rfl rfl rfl rfl rfl (Qj ag88 rfl rfl) ?_
  refine Ql 4 (by kernel_rfl) rfl rfl rfl rfl rfl (Qd rfl) ?_
  refine Ql 5 (by kernel_rfl) rfl rfl rfl rfl rfl (op_sliceI el129 rfl ⟨⟨_, rfl⟩, rfl⟩ hy14) ?_
  refine QF 6 (by kernel_rfl) rfl ?_
  refine TL_callT (hrec_impl_joined y14 r15 hr15) Try.call100 rfl rfl rfl rfl rfl ?_
  refine Qe ?_
  refine QF 7 (by kernel_rfl) rfl ?_
  refine QD 13 (es := List.map Qg [x11, r15]) el129 z88 rfl rfl rfl rfl rfl rfl rfl rfl rfl ?_
  refine Qe ?_
  refine Ql 8 (by kernel_rfl) rfl rfl rfl rfl rfl (Xn pl132 z132 rfl rfl rfl rfl rfl) ?_
  refine QF 9 (by kernel_rfl) rfl ?_
  refine TL_box 14 rfl rfl rfl rfl rfl rfl rfl ?_
  refine Qe ?_
  refine Ql 10 (by kernel_rfl) rfl rfl rfl rfl rfl (Qb rfl) ?_
  refine Q8 (by kernel_rfl) ?_
  refine T_freeze 13 (by rw [hF]; rfl) rfl rfl rfl ?_
  refine T_freezeB 14 (by rw [hF]; rfl) rfl rfl rfl rfl ?_
  refine T_nilAt 2 (x' := .cp [.int .i64 (1 : Int), .int .i64 (0 : Int), .int .i64 (0 : Int), .int .i64 (0 : Int), .sl 1 (List.map Qf ([] : List Int)), .int .i64 (0 : Int), .sl 1 (List.map Qf ([] : List Int)), .sl 2 (List.map Qq ([] : List Term)), .int .i64 (0 : Int), .sl 1 (List.map Qg [x11, r15])]) rfl (⟨_, rfl, ⟨_, _, rfl, rfl, ⟨_, _, rfl, rfl, ⟨_, _, rfl, rfl, ⟨_, _, rfl, rfl, ⟨_, _, rfl, .inr ⟨_, rfl⟩, ⟨_, _, rfl, rfl, ⟨_, _, rfl, .inr ⟨_, rfl⟩, ⟨_, _, rfl, .inr ⟨_, rfl⟩, ⟨_, _, rfl, rfl, ⟨_, _, rfl, rfl, rfl⟩⟩⟩⟩⟩⟩⟩⟩⟩⟩⟩) rfl ?_
  refine T_trAt 2 (x' := Qg (re_tree (tree.mk (Stmt.mk (1 : Int) (0 : Int) (0 : Int) (Term.mk (0 : Int) ([] : List Int)) (Term.mk (0 : Int) ([] : List Int)) ([] : List Term)) (0 : Int) [x11, r15]))) rfl (TrR_fold (re_tree_eq (tree.mk (Stmt.mk (1 : Int) (0 : Int) (0 : Int) (Term.mk (0 : Int) ([] : List Int)) (Term.mk (0 : Int) ([] : List Int)) ([] : List Term)) (0 : Int) [x11, r15]))) rfl ?_
  refine Qo [2] [] rfl rfl rfl rfl (by rw [hF]; rfl) ?_
  refine QB ?_
  obtain rfl := Qw hm
  refine ⟨[_], [], ⟨rfl, trivial⟩, ?_, rfl, rfl, rfl, rfl⟩
  rfl
theorem c_impl_joined : ∀ (n : Nat) (p0 : List Ptree) (out : Ptree), m_impl_joined n p0 = some out → ACall Try.prog 100 [.sl 1 (List.map Qg p0)] [] (Qg out) [] := by
 intro n
 induction n with
 | zero => intro p0 out hm; cases hm
 | succ n ih => intro p0 out hm; exact c_impl_joined_F (m_impl_joined n) ih p0 out hm
theorem c_impl_tree_normal_F (rec_impl_tree_normal : Ptree → Option Ptree) (hrec_impl_tree_normal : ∀ (p0 : Ptree) (out : Ptree), rec_impl_tree_normal p0 = some out → ACall Try.prog 56 [Qg p0] [] (Qg out) []) (p0 : Ptree) (out : Ptree) (hm : m_impl_tree_normal_F rec_impl_tree_normal p0 = some out) : ACall Try.prog 56 [Qg p0] [] (Qg out) [] := by
 refine ACall.intro Try.func56 rfl Try.ntmps56 rfl (fun F hF => ?_)
 unfold m_impl_tree_normal_F at hm
 refine Qn ?_
 refine Qc ?_
 refine Qa rfl rfl rfl rfl (Qb rfl) ?_
 refine Qe ?_
 refine Qn ?_
 refine Qc ?_
 refine Qa rfl rfl rfl rfl (Qb rfl) ?_
 refine Qe ?_
 refine Qn ?_
 refine Qn ?_
 refine Qc ?_
 refine Qa rfl rfl rfl rfl (Qd rfl) ?_
 obtain ⟨r10, hr10, hm⟩ := Qv hm
 refine TLE_call [] [(1000, 11)] [] (c_impl_tree_parts 1000 p0 r10 hr10) (fun _ => rfl) Try.call99 rfl rfl rfl rfl rfl trivial rfl rfl rfl rfl rfl rfl rfl rfl rfl rfl rfl ?_
 refine Qa rfl rfl rfl rfl (op_lenO Try.underlying129 rfl rfl (List.length_map _)) ?_
 refine Xy (fun _ _ _ hr => RelP.owLen (id := 11) rfl hr) (fun hlen11 => ?_)
 rw [List.length_map] at hlen11
 refine Qa rfl rfl rfl rfl (Qd rfl) ?_
 refine Qe ?_
 refine Xd ?_
 refine T_ownNil 3 8662 ⟨false, false⟩ 88 rfl rfl (sz := 1) rfl rfl rfl ?_
 refine Qo [3, 10, 11, 12] [11, 8662] rfl rfl rfl rfl (by rw [hF]; rfl) ?_
 refine T_ren [(11, 11), (8662, 70000)] rfl rfl rfl (by rw [hF]; rfl) ?_
 refine T_loop ?_
 obtain ⟨u0, hl0, hm⟩ := Qv hm
 refine TR_forL2 r10 (m_impl_tree_normal_F_L0 rec_impl_tree_normal) (fun (s0 : List Ptree) => s0) (fun n0 (s0 : List Ptree) => ⟨[(3, .ow 70000), (10, .ow 11), (11, .int .i64 (r10.length : Int)), (12, .int .i64 (n0 : Int))], [(11, .arr ⟨false, false⟩ 1 88 (List.map Qg r10)), (70000, .arr ⟨false, false⟩ 1 88 (List.map Qg s0))]⟩) (fun u0 => .exit 0) (fun u0 => ⟨[(3, .ow 70000)], [(70000, .arr ⟨false, false⟩ 1 88 (List.map Qg u0))]⟩) (fun u0 => m_impl_tree_normal_F_A0 u0 = some out) hl0 hm (fun u0 hm => ?_) (fun hx0 s0 hm => ?_) (fun hx0 n0 x0 s0 c0 hxn0 hlt0 hm hc0 => ?_)
 ·unfold m_impl_tree_normal_F_A0 at hm
  refine Qn ?_
  refine Qc ?_
  refine Qa rfl rfl rfl rfl (Qd rfl) ?_
  refine TL_freeze 70000 (by rw [hF]; rfl) rfl rfl rfl ?_
  obtain ⟨r49, hr49, hm⟩ := Qv hm
  refine TL_callT (c_impl_joined 1000 u0 r49 hr49) Try.call100 rfl rfl rfl rfl rfl ?_
  refine Qa rfl rfl rfl rfl (Qb rfl) ?_
  refine Qe ?_
  refine Qo [2] [] rfl rfl rfl rfl (by rw [hF]; rfl) ?_
  refine QB ?_
  obtain rfl := Qw hm
  refine ⟨[_], [], ⟨rfl, trivial⟩, ?_, rfl, rfl, rfl, rfl⟩
  rfl
 ·refine Qn ?_
  refine Qc ?_
  refine Qa rfl rfl rfl rfl (op_lss rfl rfl) ?_
  refine Qe ?_
  refine Qn ?_
  refine T_if_false rfl (decide_eq_false (by simp)) ?_
  refine Qo [3] [70000] rfl rfl rfl rfl (by rw [hF]; rfl) ?_
  refine T_exit ?_
  exact hx0 s0 hm
 ·unfold m_impl_tree_normal_F_L0 at hm
  refine Qn ?_
  refine Qc ?_
  refine Qa rfl rfl rfl rfl (op_lss rfl rfl) ?_
  refine Qe ?_
  refine Qn ?_
  refine T_if_true rfl (decide_eq_true (Int.ofNat_lt.2 hlt0)) ?_
  refine QL ?_
  refine Qn ?_
  refine Xd ?_
  refine Qn ?_
  refine Qc ?_
  refine Qa rfl rfl rfl rfl (op_index_ow el129 rfl rfl rfl rfl (by simpa using (List.getElem?_eq_some_iff.1 hxn0).1)) ?_
  refine Qa rfl rfl rfl rfl (op_loadT1 ag88 rfl rfl (hxn0) rfl rfl) ?_
  refine Qa rfl rfl rfl rfl (Qb rfl) ?_
  refine Qe ?_
  refine Qn ?_
  refine Qc ?_
  refine Qa rfl rfl rfl rfl (Qd rfl) ?_
  obtain ⟨o16, ho16, hm⟩ := Qv hm
  refine TL_trAt 16 (x' := .cp [.int .i64 o16.Stmt.Kind, .int .i64 o16.Stmt.Var, .int .i64 o16.Stmt.Event, .int .i64 o16.Stmt.Sum.Const, .sl 1 (List.map Qf o16.Stmt.Sum.Coeffs), .int .i64 o16.Stmt.Index.Const, .sl 1 (List.map Qf o16.Stmt.Index.Coeffs), .sl 2 (List.map Qq o16.Stmt.Facts), .int .i64 o16.at_, .sl 1 (List.map Qg o16.kids)]) rfl (Xh (QV ho16)) rfl ?_
  refine Qa rfl rfl rfl rfl (Qs rfl rfl) ?_
  refine Qa rfl rfl rfl rfl (Qu (n := 8) fa132_0 rfl rfl rfl) ?_
  refine Qa rfl rfl rfl rfl (Qt ag77 sz77 rfl rfl rfl) ?_
  refine Qa rfl rfl rfl rfl (Xn pl132 z132 rfl rfl rfl rfl rfl) ?_
  refine TL_box 5779 rfl rfl rfl rfl rfl rfl rfl ?_
  refine Qa rfl rfl rfl rfl (Qb rfl) ?_
  refine Qe ?_
  refine Qn ?_
  refine Qn ?_
  refine Qc ?_
  refine Qa rfl rfl rfl rfl (Qd rfl) ?_
  refine TL_trAt 22 (x' := .cp [.int .i64 o16.Stmt.Kind, .int .i64 o16.Stmt.Var, .int .i64 o16.Stmt.Event, .int .i64 o16.Stmt.Sum.Const, .sl 1 (List.map Qf o16.Stmt.Sum.Coeffs), .int .i64 o16.Stmt.Index.Const, .sl 1 (List.map Qf o16.Stmt.Index.Coeffs), .sl 2 (List.map Qq o16.Stmt.Facts), .int .i64 o16.at_, .sl 1 (List.map Qg o16.kids)]) rfl (Xh (QV ho16)) rfl ?_
  refine Qa rfl rfl rfl rfl (Qs rfl rfl) ?_
  refine Qa rfl rfl rfl rfl (Qi fa132_2 rfl rfl) ?_
  refine Qa rfl rfl rfl rfl (Qj ag129 rfl rfl) ?_
  refine Qa rfl rfl rfl rfl (Xm Try.underlying129 rfl (List.length_map _)) ?_
  refine Xy (fun _ _ _ hr => RelP.slLen (i := 25) rfl hr) (fun hlen26 => ?_)
  rw [List.length_map] at hlen26
  refine Qa rfl rfl rfl rfl (Qd rfl) ?_
  refine Qe ?_
  refine Xd ?_
  refine Xo 5779 9 8661 ⟨false, false⟩ 88 rfl rfl rfl (sz := 1) rfl rfl rfl rfl ?_
  refine Qo [3, 6, 10, 11, 12, 25, 26, 27] [11, 5779, 8661, 70000] rfl rfl rfl rfl (by rw [hF]; rfl) ?_
  refine T_ren [(11, 11), (5779, 5779), (8661, 70002), (70000, 70000)] rfl rfl rfl (by rw [hF]; rfl) ?_
  refine Qo [3, 6, 10, 11, 12, 25, 26, 27] [11, 5779, 70000, 70002] rfl rfl rfl rfl (by rw [hF]; rfl) ?_
  refine T_loop ?_
  obtain ⟨u1, hl1, hm⟩ := Qv hm
  refine TR_forL2 o16.kids (XB rec_impl_tree_normal) (fun (s1 : List Ptree) => s1) (fun n1 (s1 : List Ptree) => ⟨[(3, .ow 70000), (6, .ptr 5779 0 0), (10, .ow 11), (11, .int .i64 (r10.length : Int)), (12, .int .i64 (n0 : Int)), (25, .sl 1 (List.map Qg o16.kids)), (26, .int .i64 (o16.kids.length : Int)), (27, .int .i64 (n1 : Int))], [(11, .arr ⟨false, false⟩ 1 88 (List.map Qg r10)), (5779, .box [.int .i64 o16.Stmt.Kind, .int .i64 o16.Stmt.Var, .int .i64 o16.Stmt.Event, .int .i64 o16.Stmt.Sum.Const, .sl 1 (List.map Qf o16.Stmt.Sum.Coeffs), .int .i64 o16.Stmt.Index.Const, .sl 1 (List.map Qf o16.Stmt.Index.Coeffs), .sl 2 (List.map Qq o16.Stmt.Facts), .int .i64 (0 : Int), .ow 70002]), (70000, .arr ⟨false, false⟩ 1 88 (List.map Qg s0)), (70002, .arr ⟨false, false⟩ 1 88 (List.map Qg s1))]⟩) (fun u1 => .exit 2) (fun u1 => ⟨[(3, .ow 70000), (6, .ptr 5779 0 0), (10, .ow 11), (11, .int .i64 (r10.length : Int)), (12, .int .i64 (n0 : Int))], [(11, .arr ⟨false, false⟩ 1 88 (List.map Qg r10)), (5779, .box [.int .i64 o16.Stmt.Kind, .int .i64 o16.Stmt.Var, .int .i64 o16.Stmt.Event, .int .i64 o16.Stmt.Sum.Const, .sl 1 (List.map Qf o16.Stmt.Sum.Coeffs), .int .i64 o16.Stmt.Index.Const, .sl 1 (List.map Qf o16.Stmt.Index.Coeffs), .sl 2 (List.map Qq o16.Stmt.Facts), .int .i64 (0 : Int), .ow 70002]), (70000, .arr ⟨false, false⟩ 1 88 (List.map Qg s0)), (70002, .arr ⟨false, false⟩ 1 88 (List.map Qg u1))]⟩) (fun u1 => m_impl_tree_normal_F_A1 s0 o16 u1 = some c0) hl1 hm (fun u1 hm => ?_) (fun hx1 s1 hm => ?_) (fun hx1 n1 x1 s1 c1 hxn1 hlt1 hm hc1 => ?_)
  ·unfold m_impl_tree_normal_F_A1 at hm
   refine Qc ?_
   refine Qa rfl rfl rfl rfl (Qd rfl) ?_
   refine Qa rfl rfl rfl rfl (Qd rfl) ?_
   refine TL_freeze 70002 (by rw [hF]; rfl) rfl rfl rfl ?_
   refine TL_freezeB 5779 (by rw [hF]; rfl) rfl rfl rfl rfl ?_
   refine TL_trAt 44 (x' := Qg (re_tree (tree.mk o16.Stmt (0 : Int) u1))) rfl (TrR_fold (re_tree_eq (tree.mk o16.Stmt (0 : Int) u1))) rfl ?_
   refine QD 8660 (es := List.map Qg [(re_tree (tree.mk o16.Stmt (0 : Int) u1))]) el129 z88 rfl rfl rfl rfl rfl rfl rfl rfl rfl ?_
   obtain ⟨q46, hq46, hm⟩ := Qv hm
   refine Xc (f := Qg) (a := s0) (b := [(re_tree (tree.mk o16.Stmt (0 : Int) u1))]) el129 z88 rfl rfl rfl rfl rfl rfl rfl (Xa hq46) rfl rfl rfl rfl rfl ?_
   refine Qa rfl rfl rfl rfl (Qb rfl) ?_
   refine Qe ?_
   refine Qc ?_
   refine Qa rfl rfl rfl rfl (op_addN rfl rfl (Nat.lt_of_lt_of_le hlt0 hlen11)) ?_
   refine Qa rfl rfl rfl rfl (Qd rfl) ?_
   refine Qe ?_
   refine Xw [3, 10, 11, 12] [11, 70000] rfl rfl rfl rfl (by rw [hF]; rfl) ?_
   obtain rfl := Qw hm
   have hn := Q7 hc0
   exact hn _ rfl
  ·refine Qn ?_
   refine Qc ?_
   refine Qa rfl rfl rfl rfl (op_lss rfl rfl) ?_
   refine Qe ?_
   refine Qn ?_
   refine T_if_false rfl (decide_eq_false (by simp)) ?_
   refine Qo [3, 6, 10, 11, 12] [11, 5779, 70000, 70002] rfl rfl rfl rfl (by rw [hF]; rfl) ?_
   refine T_exit ?_
   exact hx1 s1 hm
  ·unfold XB at hm
   refine Qn ?_
   refine Qc ?_
   refine Qa rfl rfl rfl rfl (op_lss rfl rfl) ?_
   refine Qe ?_
   refine Qn ?_
   refine T_if_true rfl (decide_eq_true (Int.ofNat_lt.2 hlt1)) ?_
   refine QL ?_
   refine Qn ?_
   refine Xd ?_
   refine Qn ?_
   refine Qc ?_
   refine Qa rfl rfl rfl rfl (op_index_sl el129 rfl rfl rfl (get_map hxn1) rfl) ?_
   refine Qa rfl rfl rfl rfl (Qj ag88 rfl rfl) ?_
   refine Qa rfl rfl rfl rfl (Qb rfl) ?_
   refine Qe ?_
   refine T_drawZ [7, 8, 11] mix (by kernel_rfl) rfl ?_
   obtain ⟨r37, hr37, hm⟩ := Qv hm
   obtain ⟨q39, hq39, hm⟩ := Qv hm
   refine Ql 0 (by kernel_rfl) rfl rfl rfl rfl rfl (Qd rfl) ?_
   refine Ql 1 (by kernel_rfl) rfl rfl rfl rfl rfl (Qd rfl) ?_
   refine Ql 2 (by kernel_rfl) rfl rfl rfl rfl rfl (Qs rfl rfl) ?_
   refine Ql 3 (by kernel_rfl) rfl rfl rfl rfl rfl (Qi fa132_2 rfl rfl) ?_
   refine Ql 5 (by kernel_rfl) rfl rfl rfl rfl rfl (Qd rfl) ?_
   refine XD 6 [true, true, true, true, true, true, false, false, false, false, false, false] ⟨[(3, .ow 70000), (6, .ptr 5779 0 0), (8, Qg x1), (10, .ow 11), (11, .int .i64 (r10.length : Int)), (12, .int .i64 (n0 : Int)), (25, .sl 1 (List.map Qg o16.kids)), (26, .int .i64 (o16.kids.length : Int)), (27, .int .i64 (n1 : Int)), (28, .bool (decide ((n1 : Int) < (o16.kids.length : Int)))), (29, .cp [Qg x1]), (30, Qg x1), (31, .ptr 5779 0 0), (32, .ptr 5779 0 0), (33, .ptr 5779 0 0), (34, .ptr 5779 0 9), (35, .ow 70002), (36, Qg x1)], [(11, .arr ⟨false, false⟩ 1 88 (List.map Qg r10)), (5779, .box [.int .i64 o16.Stmt.Kind, .int .i64 o16.Stmt.Var, .int .i64 o16.Stmt.Event, .int .i64 o16.Stmt.Sum.Const, .sl 1 (List.map Qf o16.Stmt.Sum.Coeffs), .int .i64 o16.Stmt.Index.Const, .sl 1 (List.map Qf o16.Stmt.Index.Coeffs), .sl 2 (List.map Qq o16.Stmt.Facts), .int .i64 (0 : Int), .ow 70002]), (70000, .arr ⟨false, false⟩ 1 88 (List.map Qg s0)), (70002, .arr ⟨false, false⟩ 1 88 (List.map Qg s1))]⟩ ?_ (fun hS7699_0 => ?_)
   ·refine QF 6 (by kernel_rfl) rfl ?_
    refine TL_callT (hrec_impl_tree_normal x1 r37 hr37) Try.call56 rfl rfl rfl rfl rfl ?_
    refine Qe ?_
    refine QF 7 (by kernel_rfl) rfl ?_
    refine QD 8340 (es := List.map Qg [r37]) el129 z88 rfl rfl rfl rfl rfl rfl rfl rfl rfl ?_
    refine Qe ?_
    refine QF 8 (by kernel_rfl) rfl ?_
    refine Xc (f := Qg) (a := s1) (b := [r37]) el129 z88 rfl rfl rfl rfl rfl rfl rfl (Xa hq39) rfl rfl rfl rfl rfl ?_
    refine Qe ?_
    refine Ql 9 (by kernel_rfl) rfl rfl rfl rfl rfl (Qs rfl rfl) ?_
    refine Ql 10 (by kernel_rfl) rfl rfl rfl rfl rfl (Qi fa132_2 rfl rfl) ?_
    refine QF 11 (by kernel_rfl) rfl ?_
    refine Qr sz129 rfl rfl rfl rfl rfl rfl rfl rfl rfl ?_
    refine Qe ?_
    refine Q8 (by kernel_rfl) ?_
    refine Qc ?_
    refine Qa rfl rfl rfl rfl (op_addN rfl rfl (Nat.lt_of_lt_of_le hlt1 hlen26)) ?_
    refine Qa rfl rfl rfl rfl (Qd rfl) ?_
    refine Qe ?_
    refine Xw [3, 6, 10, 11, 12, 25, 26, 27] [11, 5779, 70000, 70002] rfl rfl rfl rfl (by rw [hF]; rfl) ?_
    obtain rfl := Qw hm
    have hn := Q7 hc1
    exact hn _ rfl
   refine XD 5 [true, true, true, true, true, true, true, false, false, false, false, false] ⟨[(3, .ow 70000), (6, .ptr 5779 0 0), (8, Qg x1), (10, .ow 11), (11, .int .i64 (r10.length : Int)), (12, .int .i64 (n0 : Int)), (25, .sl 1 (List.map Qg o16.kids)), (26, .int .i64 (o16.kids.length : Int)), (27, .int .i64 (n1 : Int)), (28, .bool (decide ((n1 : Int) < (o16.kids.length : Int)))), (29, .cp [Qg x1]), (30, Qg x1), (31, .ptr 5779 0 0), (32, .ptr 5779 0 0), (33, .ptr 5779 0 0), (34, .ptr 5779 0 9), (35, .ow 70002), (36, Qg x1), (37, Qg r37)], [(11, .arr ⟨false, false⟩ 1 88 (List.map Qg r10)), (5779, .box [.int .i64 o16.Stmt.Kind, .int .i64 o16.Stmt.Var, .int .i64 o16.Stmt.Event, .int .i64 o16.Stmt.Sum.Const, .sl 1 (List.map Qf o16.Stmt.Sum.Coeffs), .int .i64 o16.Stmt.Index.Const, .sl 1 (List.map Qf o16.Stmt.Index.Coeffs), .sl 2 (List.map Qq o16.Stmt.Facts), .int .i64 (0 : Int), .ow 70002]), (70000, .arr ⟨false, false⟩ 1 88 (List.map Qg s0)), (70002, .arr ⟨false, false⟩ 1 88 (List.map Qg s1))]⟩ ?_ (fun hS7699_1 => ?_)
   ·refine QF 7 (by kernel_rfl) rfl ?_
    refine QD 8340 (es := List.map Qg [r37]) el129 z88 rfl rfl rfl rfl rfl rfl rfl rfl rfl ?_
    refine Qe ?_
    refine QF 8 (by kernel_rfl) rfl ?_
    refine Xc (f := Qg) (a := s1) (b := [r37]) el129 z88 rfl rfl rfl rfl rfl rfl rfl (Xa hq39) rfl rfl rfl rfl rfl ?_
    refine Qe ?_
    refine Ql 9 (by kernel_rfl) rfl rfl rfl rfl rfl (Qs rfl rfl) ?_
    refine Ql 10 (by kernel_rfl) rfl rfl rfl rfl rfl (Qi fa132_2 rfl rfl) ?_
    refine QF 11 (by kernel_rfl) rfl ?_
    refine Qr sz129 rfl rfl rfl rfl rfl rfl rfl rfl rfl ?_
    refine Qe ?_
    refine Q8 (by kernel_rfl) ?_
    refine Qc ?_
    refine Qa rfl rfl rfl rfl (op_addN rfl rfl (Nat.lt_of_lt_of_le hlt1 hlen26)) ?_
    refine Qa rfl rfl rfl rfl (Qd rfl) ?_
    refine Qe ?_
    refine Xw [3, 6, 10, 11, 12, 25, 26, 27] [11, 5779, 70000, 70002] rfl rfl rfl rfl (by rw [hF]; rfl) ?_
    obtain rfl := Qw hm
    have hn := Q7 hc1
    exact hn _ rfl
   refine XD 5 [true, true, true, true, false, true, true, true, false, false, false, false] ⟨[(3, .ow 70000), (6, .ptr 5779 0 0), (8, Qg x1), (10, .ow 11), (11, .int .i64 (r10.length : Int)), (12, .int .i64 (n0 : Int)), (25, .sl 1 (List.map Qg o16.kids)), (26, .int .i64 (o16.kids.length : Int)), (27, .int .i64 (n1 : Int)), (28, .bool (decide ((n1 : Int) < (o16.kids.length : Int)))), (29, .cp [Qg x1]), (30, Qg x1), (31, .ptr 5779 0 0), (32, .ptr 5779 0 0), (33, .ptr 5779 0 0), (34, .ptr 5779 0 9), (36, Qg x1), (37, Qg r37), (38, .ow 8340)], [(11, .arr ⟨false, false⟩ 1 88 (List.map Qg r10)), (5779, .box [.int .i64 o16.Stmt.Kind, .int .i64 o16.Stmt.Var, .int .i64 o16.Stmt.Event, .int .i64 o16.Stmt.Sum.Const, .sl 1 (List.map Qf o16.Stmt.Sum.Coeffs), .int .i64 o16.Stmt.Index.Const, .sl 1 (List.map Qf o16.Stmt.Index.Coeffs), .sl 2 (List.map Qq o16.Stmt.Facts), .int .i64 (0 : Int), .ow 70002]), (8340, .arr ⟨false, false⟩ 1 88 (List.map Qg [r37])), (70000, .arr ⟨false, false⟩ 1 88 (List.map Qg s0)), (70002, .arr ⟨false, false⟩ 1 88 (List.map Qg s1))]⟩ ?_ (fun hS7699_2 => ?_)
   ·refine Ql 4 (by kernel_rfl) rfl rfl rfl rfl rfl (Qj ag129 rfl rfl) ?_
    refine QF 8 (by kernel_rfl) rfl ?_
    refine Xc (f := Qg) (a := s1) (b := [r37]) el129 z88 rfl rfl rfl rfl rfl rfl rfl (Xa hq39) rfl rfl rfl rfl rfl ?_
    refine Qe ?_
    refine Ql 9 (by kernel_rfl) rfl rfl rfl rfl rfl (Qs rfl rfl) ?_
    refine Ql 10 (by kernel_rfl) rfl rfl rfl rfl rfl (Qi fa132_2 rfl rfl) ?_
    refine QF 11 (by kernel_rfl) rfl ?_
    refine Qr sz129 rfl rfl rfl rfl rfl rfl rfl rfl rfl ?_
    refine Qe ?_
    refine Q8 (by kernel_rfl) ?_
    refine Qc ?_
    refine Qa rfl rfl rfl rfl (op_addN rfl rfl (Nat.lt_of_lt_of_le hlt1 hlen26)) ?_
    refine Qa rfl rfl rfl rfl (Qd rfl) ?_
    refine Qe ?_
    refine Xw [3, 6, 10, 11, 12, 25, 26, 27] [11, 5779, 70000, 70002] rfl rfl rfl rfl (by rw [hF]; rfl) ?_
    obtain rfl := Qw hm
    have hn := Q7 hc1
    exact hn _ rfl
   refine XD 6 [true, true, true, true, false, true, true, false, false, false, false, false] ⟨[(3, .ow 70000), (6, .ptr 5779 0 0), (8, Qg x1), (10, .ow 11), (11, .int .i64 (r10.length : Int)), (12, .int .i64 (n0 : Int)), (25, .sl 1 (List.map Qg o16.kids)), (26, .int .i64 (o16.kids.length : Int)), (27, .int .i64 (n1 : Int)), (28, .bool (decide ((n1 : Int) < (o16.kids.length : Int)))), (29, .cp [Qg x1]), (30, Qg x1), (31, .ptr 5779 0 0), (32, .ptr 5779 0 0), (33, .ptr 5779 0 0), (34, .ptr 5779 0 9), (36, Qg x1), (37, Qg r37)], [(11, .arr ⟨false, false⟩ 1 88 (List.map Qg r10)), (5779, .box [.int .i64 o16.Stmt.Kind, .int .i64 o16.Stmt.Var, .int .i64 o16.Stmt.Event, .int .i64 o16.Stmt.Sum.Const, .sl 1 (List.map Qf o16.Stmt.Sum.Coeffs), .int .i64 o16.Stmt.Index.Const, .sl 1 (List.map Qf o16.Stmt.Index.Coeffs), .sl 2 (List.map Qq o16.Stmt.Facts), .int .i64 (0 : Int), .ow 70002]), (70000, .arr ⟨false, false⟩ 1 88 (List.map Qg s0)), (70002, .arr ⟨false, false⟩ 1 88 (List.map Qg s1))]⟩ ?_ (fun hS7699_3 => ?_)
   ·refine TZ_each [4, 7] (by kernel_rfl) rfl ?_
    refine ⟨?_, ?_⟩
    ·refine ⟨_, rfl, ?_⟩
     refine Qa rfl rfl rfl rfl (Qj ag129 rfl rfl) ?_
     refine Qe ?_
     refine QU [3, 6, 8, 10, 11, 12, 25, 26, 27, 28, 29, 30, 31, 32, 33, 34, 35, 36, 37] [11, 5779, 70000, 70002] rfl rfl rfl rfl (by rw [hF]; rfl) ?_
     exact hS7699_1
    ·refine ⟨_, rfl, ?_⟩
     refine QD 8340 (es := List.map Qg [r37]) el129 z88 rfl rfl rfl rfl rfl rfl rfl rfl rfl ?_
     refine Qe ?_
     refine QU [3, 6, 8, 10, 11, 12, 25, 26, 27, 28, 29, 30, 31, 32, 33, 34, 36, 37, 38] [11, 5779, 8340, 70000, 70002] rfl rfl rfl rfl (by rw [hF]; rfl) ?_
     exact hS7699_2
   refine TZ_each [4, 6] (by kernel_rfl) rfl ?_
   refine ⟨?_, ?_⟩
   ·refine ⟨_, rfl, ?_⟩
    refine Qa rfl rfl rfl rfl (Qj ag129 rfl rfl) ?_
    refine Qe ?_
    refine QU [3, 6, 8, 10, 11, 12, 25, 26, 27, 28, 29, 30, 31, 32, 33, 34, 35, 36] [11, 5779, 70000, 70002] rfl rfl rfl rfl (by rw [hF]; rfl) ?_
    exact hS7699_0
   ·refine ⟨_, rfl, ?_⟩
    refine TL_callT (hrec_impl_tree_normal x1 r37 hr37) Try.call56 rfl rfl rfl rfl rfl ?_
    refine Qe ?_
    refine QU [3, 6, 8, 10, 11, 12, 25, 26, 27, 28, 29, 30, 31, 32, 33, 34, 36, 37] [11, 5779, 70000, 70002] rfl rfl rfl rfl (by rw [hF]; rfl) ?_
    exact hS7699_3
theorem c_impl_tree_normal : ∀ (n : Nat) (p0 : Ptree) (out : Ptree), m_impl_tree_normal n p0 = some out → ACall Try.prog 56 [Qg p0] [] (Qg out) [] := by
 intro n
 induction n with
 | zero => intro p0 out hm; cases hm
 | succ n ih => intro p0 out hm; exact c_impl_tree_normal_F (m_impl_tree_normal n) ih p0 out hm
theorem c_impl_NormalBody (p0 : List Stmt) (out : (List Stmt) × Bool) (hm : m_impl_NormalBody p0 = some out) : ACall Try.prog 24 [.sl 8 (List.map QZ p0)] [] (.tup [.ow 1000, .bool out.2]) [(1000, .arr ⟨false, true⟩ 8 77 (List.map QZ out.1))] := by
 refine ACall.intro Try.func24 rfl Try.ntmps24 rfl (fun F hF => ?_)
 unfold m_impl_NormalBody at hm
 refine Qn ?_
 refine Qc ?_
 refine Qa rfl rfl rfl rfl (Qb rfl) ?_
 refine Qa rfl rfl rfl rfl (Qb rfl) ?_
 refine Qe ?_
 refine Qn ?_
 refine Qc ?_
 refine Qa rfl rfl rfl rfl (Qd rfl) ?_
 obtain ⟨r8, hr8, hm⟩ := Qv hm
 refine TL_callT (c_impl_treeOf p0 r8 hr8) Try.call55 rfl rfl rfl rfl rfl ?_
 refine Qa rfl rfl rfl rfl (Qd rfl) ?_
 refine Qa rfl rfl rfl rfl (QH rfl rfl) ?_
 refine Qa rfl rfl rfl rfl (QH rfl rfl) ?_
 refine Qa rfl rfl rfl rfl (Qb rfl) ?_
 refine Qa rfl rfl rfl rfl (Qb rfl) ?_
 refine Qe ?_
 refine Qn ?_
 refine Qn ?_
 refine Qc ?_
 refine Qa rfl rfl rfl rfl (Qd rfl) ?_
 refine Qa rfl rfl rfl rfl (op_not rfl) ?_
 refine Qe ?_
 refine QI rfl (fun hq => ?_) (fun hq => ?_)
 ·replace hm := QO hq hm
  refine Qn ?_
  refine Qc ?_
  refine Qa rfl rfl rfl rfl (Qb rfl) ?_
  refine Qa rfl rfl rfl rfl (Qb rfl) ?_
  refine Qe ?_
  refine T_ownNil 2 11 ⟨false, true⟩ 77 rfl rfl (sz := 8) rfl rfl rfl ?_
  refine Qo [2, 3] [11] rfl rfl rfl rfl (by rw [hF]; rfl) ?_
  refine T_ren [(11, 1000)] rfl rfl rfl (by rw [hF]; rfl) ?_
  refine QB ?_
  obtain rfl := Qw hm
  refine ⟨[_, _], [1000], ⟨rfl, rfl, trivial⟩, ?_, rfl, rfl, rfl, rfl⟩
  rfl
 ·replace hm := QM hq hm
  refine QL ?_
  refine Qn ?_
  refine Qc ?_
  refine Qa rfl rfl rfl rfl (Qd rfl) ?_
  obtain ⟨r14, hr14, hm⟩ := Qv hm
  refine TL_callT (c_impl_tree_normal 1000 r8.1 r14 hr14) Try.call56 rfl rfl rfl rfl rfl ?_
  obtain ⟨r15, hr15, hm⟩ := Qv hm
  refine TL_callO [(1000, 12)] (c_impl_tree_body 1000 r14 r15 hr15) Try.call57 rfl rfl rfl rfl rfl rfl rfl rfl rfl rfl rfl rfl rfl ?_
  refine Qa rfl rfl rfl rfl (Qb rfl) ?_
  refine Qa rfl rfl rfl rfl (Qb rfl) ?_
  refine Qe ?_
  refine Qo [2, 3] [12] rfl rfl rfl rfl (by rw [hF]; rfl) ?_
  refine T_ren [(12, 1000)] rfl rfl rfl (by rw [hF]; rfl) ?_
  refine QB ?_
  obtain rfl := Qw hm
  refine ⟨[_, _], [1000], ⟨rfl, rfl, trivial⟩, ?_, rfl, rfl, rfl, rfl⟩
  rfl
theorem c_impl_IsBody (p0 : List Stmt) (out : Bool) (hm : m_impl_IsBody p0 = some out) : ACall Try.prog 35 [.sl 8 (List.map QZ p0)] [] (.bool out) [] := by
 refine ACall.intro Try.func35 rfl Try.ntmps35 rfl (fun F hF => ?_)
 unfold m_impl_IsBody at hm
 refine Qn ?_
 refine Qc ?_
 refine Qa rfl rfl rfl rfl (Qb rfl) ?_
 refine Qe ?_
 refine Qn ?_
 refine Qc ?_
 refine Qa rfl rfl rfl rfl (Qd rfl) ?_
 obtain ⟨r7, hr7, hm⟩ := Qv hm
 refine TL_callT (c_impl_treeOf p0 r7 hr7) Try.call55 rfl rfl rfl rfl rfl ?_
 refine Qa rfl rfl rfl rfl (Qd rfl) ?_
 refine Qa rfl rfl rfl rfl (QH rfl rfl) ?_
 refine Qa rfl rfl rfl rfl (QH rfl rfl) ?_
 refine Qa rfl rfl rfl rfl (Qb rfl) ?_
 refine Qa rfl rfl rfl rfl (Qb rfl) ?_
 refine Qe ?_
 refine Qn ?_
 refine Qc ?_
 refine Qa rfl rfl rfl rfl (Qd rfl) ?_
 refine Qa rfl rfl rfl rfl (Qb rfl) ?_
 refine Qe ?_
 refine Qo [2] [] rfl rfl rfl rfl (by rw [hF]; rfl) ?_
 refine QB ?_
 obtain rfl := Qw hm
 refine ⟨[_], [], ⟨rfl, trivial⟩, ?_, rfl, rfl, rfl, rfl⟩
 rfl
theorem c_laws_r8Same (p0 : List Int) (p1 : List Int) (out : Bool) (hm : m_laws_r8Same p0 p1 = some out) : ACall Try.prog 16 [.sl 1 (List.map Qf p0), .sl 1 (List.map Qf p1)] [] (.bool out) [] := by
 refine ACall.intro Try.func16 rfl Try.ntmps16 rfl (fun F hF => ?_)
 unfold m_laws_r8Same at hm
 refine Qn ?_
 refine Qc ?_
 refine Qa rfl rfl rfl rfl (Qb rfl) ?_
 refine Qe ?_
 refine Qn ?_
 refine Qn ?_
 refine Qc ?_
 refine Qa rfl rfl rfl rfl (Qd rfl) ?_
 refine Qa rfl rfl rfl rfl (Xm Try.underlying29 rfl (List.length_map _)) ?_
 refine Xy (fun _ _ _ hr => RelP.slLen (i := 6) rfl hr) (fun hlen7 => ?_)
 rw [List.length_map] at hlen7
 refine Qa rfl rfl rfl rfl (Qd rfl) ?_
 refine Qa rfl rfl rfl rfl (Xm Try.underlying29 rfl (List.length_map _)) ?_
 refine Xy (fun _ _ _ hr => RelP.slLen (i := 8) rfl hr) (fun hlen9 => ?_)
 rw [List.length_map] at hlen9
 refine Qa rfl rfl rfl rfl (op_neq rfl rfl) ?_
 refine Qe ?_
 refine QI rfl (fun hq => ?_) (fun hq => ?_)
 ·replace hm := QO hq hm
  refine Qn ?_
  refine Qc ?_
  refine Qa rfl rfl rfl rfl (Qb rfl) ?_
  refine Qe ?_
  refine Qo [4] [] rfl rfl rfl rfl (by rw [hF]; rfl) ?_
  refine QB ?_
  obtain rfl := Qw hm
  refine ⟨[_], [], ⟨rfl, trivial⟩, ?_, rfl, rfl, rfl, rfl⟩
  rfl
 ·replace hm := QM hq hm
  refine QL ?_
  refine Qn ?_
  refine Qn ?_
  refine Qc ?_
  refine Qa rfl rfl rfl rfl (Qb rfl) ?_
  refine Qe ?_
  refine Xd ?_
  refine Qo [0, 1, 5] [] rfl rfl rfl rfl (by rw [hF]; rfl) ?_
  refine T_loop ?_
  obtain ⟨u0, hl0, hm⟩ := Qv hm
  refine TR_iter2 (m_laws_r8Same_L0 p0 p1) (fun (s0 : Int) => ⟨[(0, .sl 1 (List.map Qf p0)), (1, .sl 1 (List.map Qf p1)), (5, .int .i64 s0)], []⟩) (fun u0 => match u0 with | .inl u0 => .exit 0 | .inr u0 => .ret) (fun u0 => match u0 with | .inl u0 => ⟨[], []⟩ | .inr u0 => ⟨[(4, .bool u0)], []⟩) (fun u0 => m_laws_r8Same_A0 u0 = some out) hl0 hm (fun u0 hm => ?_) (fun hx0 s0 c0 hm hc0 => ?_)
  ·rcases u0 with u0 | u0
   ·unfold m_laws_r8Same_A0 at hm
    refine Qn ?_
    refine Qc ?_
    refine Qa rfl rfl rfl rfl (Qb rfl) ?_
    refine Qe ?_
    refine Qo [4] [] rfl rfl rfl rfl (by rw [hF]; rfl) ?_
    refine QB ?_
    obtain rfl := Qw hm
    refine ⟨[_], [], ⟨rfl, trivial⟩, ?_, rfl, rfl, rfl, rfl⟩
    rfl
   ·unfold m_laws_r8Same_A0 at hm
    obtain rfl := Qw hm
    refine ⟨[_], [], ⟨rfl, trivial⟩, ?_, rfl, rfl, rfl, rfl⟩
    rfl
  ·unfold m_laws_r8Same_L0 at hm
   refine Qn ?_
   refine Qn ?_
   refine Qc ?_
   refine Qa rfl rfl rfl rfl (Qd rfl) ?_
   refine Qa rfl rfl rfl rfl (Qd rfl) ?_
   refine Qa rfl rfl rfl rfl (Xm Try.underlying29 rfl (List.length_map _)) ?_
   refine Qa rfl rfl rfl rfl (op_lss rfl rfl) ?_
   refine Qe ?_
   refine QI rfl (fun hq => ?_) (fun hq => ?_)
   ·replace hm := QO hq hm
    refine QL ?_
    refine Qn ?_
    refine Xd ?_
    refine Qn ?_
    refine T_drawZ [] mix (by kernel_rfl) rfl ?_
    obtain ⟨x19, hx19, hm⟩ := Qv hm
    obtain ⟨x23, hx23, hm⟩ := Qv hm
    refine Ql 0 (by kernel_rfl) rfl rfl rfl rfl rfl (Qd rfl) ?_
    refine Ql 1 (by kernel_rfl) rfl rfl rfl rfl rfl (Qd rfl) ?_
    refine Ql 2 (by kernel_rfl) rfl rfl rfl rfl rfl (Xi el29 rfl rfl hx19 rfl) ?_
    refine Ql 3 (by kernel_rfl) rfl rfl rfl rfl rfl (Qj ag2 rfl rfl) ?_
    refine Ql 4 (by kernel_rfl) rfl rfl rfl rfl rfl (Qd rfl) ?_
    refine Ql 5 (by kernel_rfl) rfl rfl rfl rfl rfl (Qd rfl) ?_
    refine Ql 6 (by kernel_rfl) rfl rfl rfl rfl rfl (Xi el29 rfl rfl hx23 rfl) ?_
    refine Ql 7 (by kernel_rfl) rfl rfl rfl rfl rfl (Qj ag2 rfl rfl) ?_
    refine Ql 8 (by kernel_rfl) rfl rfl rfl rfl rfl (op_neq rfl rfl) ?_
    refine Q8 (by kernel_rfl) ?_
    refine QI rfl (fun hq => ?_) (fun hq => ?_)
    ·replace hm := QO hq hm
     refine Qn ?_
     refine Qc ?_
     refine Qa rfl rfl rfl rfl (Qb rfl) ?_
     refine Qe ?_
     refine Qo [4] [] rfl rfl rfl rfl (by rw [hF]; rfl) ?_
     refine QB ?_
     obtain rfl := Qw hm
     have hn := Xv hc0
     exact hx0 (.inr false) hn
    ·replace hm := QM hq hm
     refine QL ?_
     refine Qc ?_
     refine Qa rfl rfl rfl rfl (Qd rfl) ?_
     refine Qa rfl rfl rfl rfl (op_addW rfl rfl) ?_
     refine Qa rfl rfl rfl rfl (Qb rfl) ?_
     refine Qe ?_
     refine Xw [0, 1, 5] [] rfl rfl rfl rfl (by rw [hF]; rfl) ?_
     obtain rfl := Qw hm
     have hn := Q7 hc0
     exact hn _ rfl
   ·replace hm := QM hq hm
    refine Qo [] [] rfl rfl rfl rfl (by rw [hF]; rfl) ?_
    refine T_exit ?_
    obtain rfl := Qw hm
    have hn := Xv hc0
    exact hx0 (.inl ()) hn
theorem c_laws_r8Term (p0 : Term) (p1 : Term) (out : Bool) (hm : m_laws_r8Term p0 p1 = some out) : ACall Try.prog 70 [.agg [.int .i64 p0.Const, .sl 1 (List.map Qf p0.Coeffs)], .agg [.int .i64 p1.Const, .sl 1 (List.map Qf p1.Coeffs)]] [] (.bool out) [] := by
 refine ACall.intro Try.func70 rfl Try.ntmps70 rfl (fun F hF => ?_)
 unfold m_laws_r8Term at hm
 refine Qn ?_
 refine Qc ?_
 refine TL_box 11 rfl rfl rfl rfl rfl rfl rfl ?_
 refine TL_box 12 rfl rfl rfl rfl rfl rfl rfl ?_
 refine Qa rfl rfl rfl rfl (Qb rfl) ?_
 refine Qe ?_
 refine Qn ?_
 refine Qc ?_
 refine Qa rfl rfl rfl rfl (Qi fa75_0 rfl rfl) ?_
 refine Qa rfl rfl rfl rfl (Qj ag2 rfl rfl) ?_
 refine Qa rfl rfl rfl rfl (Qi fa75_0 rfl rfl) ?_
 refine Qa rfl rfl rfl rfl (Qj ag2 rfl rfl) ?_
 refine Qa rfl rfl rfl rfl (Xq rfl rfl) ?_
 refine Qa rfl rfl rfl rfl (Qd rfl) ?_
 refine Qy 10 rfl rfl rfl (fun hq => ?_) (fun hq => ?_)
 ·replace hm := QO hq hm
  refine Qm rfl rfl ?_
  refine Qa rfl rfl rfl rfl (Qi fa75_1 rfl rfl) ?_
  refine Qm rfl rfl ?_
  refine Qa rfl rfl rfl rfl (Qj ag29 rfl rfl) ?_
  refine Qm rfl rfl ?_
  refine Qa rfl rfl rfl rfl (Qi fa75_1 rfl rfl) ?_
  refine Qm rfl rfl ?_
  refine Qa rfl rfl rfl rfl (Qj ag29 rfl rfl) ?_
  refine Qm rfl rfl ?_
  obtain ⟨r15, hr15, hm⟩ := Qv hm
  refine QG (c_laws_r8Same p0.Coeffs p1.Coeffs r15 hr15) Try.call16 rfl rfl rfl rfl rfl ?_
  refine Qa rfl rfl rfl rfl (Qp rfl rfl) ?_
  refine Qa rfl rfl rfl rfl (Qb rfl) ?_
  refine Qe ?_
  refine Qo [4] [] rfl rfl rfl rfl (by rw [hF]; rfl) ?_
  refine QB ?_
  obtain rfl := Qw hm
  refine ⟨[_], [], ⟨rfl, trivial⟩, ?_, rfl, rfl, rfl, rfl⟩
  rfl
 ·replace hm := QM hq hm
  refine Qh rfl rfl rfl rfl rfl rfl rfl ?_
  refine Qh rfl rfl rfl rfl rfl rfl rfl ?_
  refine Qh rfl rfl rfl rfl rfl rfl rfl ?_
  refine Qh rfl rfl rfl rfl rfl rfl rfl ?_
  refine Qh rfl rfl rfl rfl rfl rfl rfl ?_
  refine Qa rfl rfl rfl rfl (Qk rfl rfl) ?_
  refine Qa rfl rfl rfl rfl (Qb rfl) ?_
  refine Qe ?_
  refine Qo [4] [] rfl rfl rfl rfl (by rw [hF]; rfl) ?_
  refine QB ?_
  obtain rfl := Qw hm
  refine ⟨[_], [], ⟨rfl, trivial⟩, ?_, rfl, rfl, rfl, rfl⟩
  rfl
theorem c_laws_r8Terms (p0 : List Term) (p1 : List Term) (out : Bool) (hm : m_laws_r8Terms p0 p1 = some out) : ACall Try.prog 71 [.sl 2 (List.map Qq p0), .sl 2 (List.map Qq p1)] [] (.bool out) [] := by
 refine ACall.intro Try.func71 rfl Try.ntmps71 rfl (fun F hF => ?_)
 unfold m_laws_r8Terms at hm
 refine Qn ?_
 refine Qc ?_
 refine Qa rfl rfl rfl rfl (Qb rfl) ?_
 refine Qe ?_
 refine Qn ?_
 refine Qn ?_
 refine Qc ?_
 refine Qa rfl rfl rfl rfl (Qd rfl) ?_
 refine Qa rfl rfl rfl rfl (Xm Try.underlying24 rfl (List.length_map _)) ?_
 refine Xy (fun _ _ _ hr => RelP.slLen (i := 6) rfl hr) (fun hlen7 => ?_)
 rw [List.length_map] at hlen7
 refine Qa rfl rfl rfl rfl (Qd rfl) ?_
 refine Qa rfl rfl rfl rfl (Xm Try.underlying24 rfl (List.length_map _)) ?_
 refine Xy (fun _ _ _ hr => RelP.slLen (i := 8) rfl hr) (fun hlen9 => ?_)
 rw [List.length_map] at hlen9
 refine Qa rfl rfl rfl rfl (op_neq rfl rfl) ?_
 refine Qe ?_
 refine QI rfl (fun hq => ?_) (fun hq => ?_)
 ·replace hm := QO hq hm
  refine Qn ?_
  refine Qc ?_
  refine Qa rfl rfl rfl rfl (Qb rfl) ?_
  refine Qe ?_
  refine Qo [4] [] rfl rfl rfl rfl (by rw [hF]; rfl) ?_
  refine QB ?_
  obtain rfl := Qw hm
  refine ⟨[_], [], ⟨rfl, trivial⟩, ?_, rfl, rfl, rfl, rfl⟩
  rfl
 ·replace hm := QM hq hm
  refine QL ?_
  refine Qn ?_
  refine Qn ?_
  refine Qc ?_
  refine Qa rfl rfl rfl rfl (Qb rfl) ?_
  refine Qe ?_
  refine Xd ?_
  refine Qo [0, 1, 5] [] rfl rfl rfl rfl (by rw [hF]; rfl) ?_
  refine T_loop ?_
  obtain ⟨u0, hl0, hm⟩ := Qv hm
  refine TR_iter2 (m_laws_r8Terms_L0 p0 p1) (fun (s0 : Int) => ⟨[(0, .sl 2 (List.map Qq p0)), (1, .sl 2 (List.map Qq p1)), (5, .int .i64 s0)], []⟩) (fun u0 => match u0 with | .inl u0 => .exit 0 | .inr u0 => .ret) (fun u0 => match u0 with | .inl u0 => ⟨[], []⟩ | .inr u0 => ⟨[(4, .bool u0)], []⟩) (fun u0 => m_laws_r8Terms_A0 u0 = some out) hl0 hm (fun u0 hm => ?_) (fun hx0 s0 c0 hm hc0 => ?_)
  ·rcases u0 with u0 | u0
   ·unfold m_laws_r8Terms_A0 at hm
    refine Qn ?_
    refine Qc ?_
    refine Qa rfl rfl rfl rfl (Qb rfl) ?_
    refine Qe ?_
    refine Qo [4] [] rfl rfl rfl rfl (by rw [hF]; rfl) ?_
    refine QB ?_
    obtain rfl := Qw hm
    refine ⟨[_], [], ⟨rfl, trivial⟩, ?_, rfl, rfl, rfl, rfl⟩
    rfl
   ·unfold m_laws_r8Terms_A0 at hm
    obtain rfl := Qw hm
    refine ⟨[_], [], ⟨rfl, trivial⟩, ?_, rfl, rfl, rfl, rfl⟩
    rfl
  ·unfold m_laws_r8Terms_L0 at hm
   refine Qn ?_
   refine Qn ?_
   refine Qc ?_
   refine Qa rfl rfl rfl rfl (Qd rfl) ?_
   refine Qa rfl rfl rfl rfl (Qd rfl) ?_
   refine Qa rfl rfl rfl rfl (Xm Try.underlying24 rfl (List.length_map _)) ?_
   refine Qa rfl rfl rfl rfl (op_lss rfl rfl) ?_
   refine Qe ?_
   refine QI rfl (fun hq => ?_) (fun hq => ?_)
   ·replace hm := QO hq hm
    refine QL ?_
    refine Qn ?_
    refine Xd ?_
    refine Qn ?_
    refine T_drawZ [] mix (by kernel_rfl) rfl ?_
    obtain ⟨x19, hx19, hm⟩ := Qv hm
    obtain ⟨x23, hx23, hm⟩ := Qv hm
    obtain ⟨r25, hr25, hm⟩ := Qv hm
    refine Ql 0 (by kernel_rfl) rfl rfl rfl rfl rfl (Qd rfl) ?_
    refine Ql 1 (by kernel_rfl) rfl rfl rfl rfl rfl (Qd rfl) ?_
    refine Ql 2 (by kernel_rfl) rfl rfl rfl rfl rfl (Xi el24 rfl rfl hx19 rfl) ?_
    refine Ql 3 (by kernel_rfl) rfl rfl rfl rfl rfl (Qt ag75 sz75 rfl rfl rfl) ?_
    refine Ql 4 (by kernel_rfl) rfl rfl rfl rfl rfl (Qd rfl) ?_
    refine Ql 5 (by kernel_rfl) rfl rfl rfl rfl rfl (Qd rfl) ?_
    refine Ql 6 (by kernel_rfl) rfl rfl rfl rfl rfl (Xi el24 rfl rfl hx23 rfl) ?_
    refine Ql 7 (by kernel_rfl) rfl rfl rfl rfl rfl (Qt ag75 sz75 rfl rfl rfl) ?_
    refine QF 8 (by kernel_rfl) rfl ?_
    refine QG (c_laws_r8Term x19 x23 r25 hr25) Try.call70 rfl rfl rfl rfl rfl ?_
    refine Qe ?_
    refine Ql 9 (by kernel_rfl) rfl rfl rfl rfl rfl (op_not rfl) ?_
    refine Q8 (by kernel_rfl) ?_
    refine QI rfl (fun hq => ?_) (fun hq => ?_)
    ·replace hm := QO hq hm
     refine Qn ?_
     refine Qc ?_
     refine Qa rfl rfl rfl rfl (Qb rfl) ?_
     refine Qe ?_
     refine Qo [4] [] rfl rfl rfl rfl (by rw [hF]; rfl) ?_
     refine QB ?_
     obtain rfl := Qw hm
     have hn := Xv hc0
     exact hx0 (.inr false) hn
    ·replace hm := QM hq hm
     refine QL ?_
     refine Qc ?_
     refine Qa rfl rfl rfl rfl (Qd rfl) ?_
     refine Qa rfl rfl rfl rfl (op_addW rfl rfl) ?_
     refine Qa rfl rfl rfl rfl (Qb rfl) ?_
     refine Qe ?_
     refine Xw [0, 1, 5] [] rfl rfl rfl rfl (by rw [hF]; rfl) ?_
     obtain rfl := Qw hm
     have hn := Q7 hc0
     exact hn _ rfl
   ·replace hm := QM hq hm
    refine Qo [] [] rfl rfl rfl rfl (by rw [hF]; rfl) ?_
    refine T_exit ?_
    obtain rfl := Qw hm
    have hn := Xv hc0
    exact hx0 (.inl ()) hn
theorem c_laws_r8Bodies (p0 : List Stmt) (p1 : List Stmt) (out : Bool) (hm : m_laws_r8Bodies p0 p1 = some out) : ACall Try.prog 36 [.sl 8 (List.map QZ p0), .sl 8 (List.map QZ p1)] [] (.bool out) [] := by
 refine ACall.intro Try.func36 rfl Try.ntmps36 rfl (fun F hF => ?_)
 unfold m_laws_r8Bodies at hm
 refine Qn ?_
 refine Qc ?_
 refine Qa rfl rfl rfl rfl (Qb rfl) ?_
 refine Qe ?_
 refine Qn ?_
 refine Qn ?_
 refine Qc ?_
 refine Qa rfl rfl rfl rfl (Qd rfl) ?_
 refine Qa rfl rfl rfl rfl (Xm Try.underlying25 rfl (List.length_map _)) ?_
 refine Xy (fun _ _ _ hr => RelP.slLen (i := 8) rfl hr) (fun hlen9 => ?_)
 rw [List.length_map] at hlen9
 refine Qa rfl rfl rfl rfl (Qd rfl) ?_
 refine Qa rfl rfl rfl rfl (Xm Try.underlying25 rfl (List.length_map _)) ?_
 refine Xy (fun _ _ _ hr => RelP.slLen (i := 10) rfl hr) (fun hlen11 => ?_)
 rw [List.length_map] at hlen11
 refine Qa rfl rfl rfl rfl (op_neq rfl rfl) ?_
 refine Qe ?_
 refine QI rfl (fun hq => ?_) (fun hq => ?_)
 ·replace hm := QO hq hm
  refine Qn ?_
  refine Qc ?_
  refine Qa rfl rfl rfl rfl (Qb rfl) ?_
  refine Qe ?_
  refine Qo [4] [] rfl rfl rfl rfl (by rw [hF]; rfl) ?_
  refine QB ?_
  obtain rfl := Qw hm
  refine ⟨[_], [], ⟨rfl, trivial⟩, ?_, rfl, rfl, rfl, rfl⟩
  rfl
 ·replace hm := QM hq hm
  refine QL ?_
  refine Qn ?_
  refine Qn ?_
  refine Qc ?_
  refine Qa rfl rfl rfl rfl (Qb rfl) ?_
  refine Qe ?_
  refine Xd ?_
  refine Qo [0, 1, 5] [] rfl rfl rfl rfl (by rw [hF]; rfl) ?_
  refine T_loop ?_
  obtain ⟨u0, hl0, hm⟩ := Qv hm
  refine TR_iter2 (m_laws_r8Bodies_L0 p0 p1) (fun (s0 : Int) => ⟨[(0, .sl 8 (List.map QZ p0)), (1, .sl 8 (List.map QZ p1)), (5, .int .i64 s0)], []⟩) (fun u0 => match u0 with | .inl u0 => .exit 0 | .inr u0 => .ret) (fun u0 => match u0 with | .inl u0 => ⟨[], []⟩ | .inr u0 => ⟨[(4, .bool u0)], []⟩) (fun u0 => m_laws_r8Bodies_A0 u0 = some out) hl0 hm (fun u0 hm => ?_) (fun hx0 s0 c0 hm hc0 => ?_)
  ·rcases u0 with u0 | u0
   ·unfold m_laws_r8Bodies_A0 at hm
    refine Qn ?_
    refine Qc ?_
    refine Qa rfl rfl rfl rfl (Qb rfl) ?_
    refine Qe ?_
    refine Qo [4] [] rfl rfl rfl rfl (by rw [hF]; rfl) ?_
    refine QB ?_
    obtain rfl := Qw hm
    refine ⟨[_], [], ⟨rfl, trivial⟩, ?_, rfl, rfl, rfl, rfl⟩
    rfl
   ·unfold m_laws_r8Bodies_A0 at hm
    obtain rfl := Qw hm
    refine ⟨[_], [], ⟨rfl, trivial⟩, ?_, rfl, rfl, rfl, rfl⟩
    rfl
  ·unfold m_laws_r8Bodies_L0 at hm
   refine Qn ?_
   refine Qn ?_
   refine Qc ?_
   refine Qa rfl rfl rfl rfl (Qd rfl) ?_
   refine Qa rfl rfl rfl rfl (Qd rfl) ?_
   refine Qa rfl rfl rfl rfl (Xm Try.underlying25 rfl (List.length_map _)) ?_
   refine Qa rfl rfl rfl rfl (op_lss rfl rfl) ?_
   refine Qe ?_
   refine QI rfl (fun hq => ?_) (fun hq => ?_)
   ·replace hm := QO hq hm
    refine QL ?_
    refine Qn ?_
    refine Xd ?_
    refine Qn ?_
    refine Qc ?_
    refine Qa rfl rfl rfl rfl (Qd rfl) ?_
    refine Qa rfl rfl rfl rfl (Qd rfl) ?_
    obtain ⟨x21, hx21, hm⟩ := Qv hm
    refine Qa rfl rfl rfl rfl (Xi el25 rfl rfl hx21 rfl) ?_
    refine Qa rfl rfl rfl rfl (Qt ag77 sz77 rfl rfl rfl) ?_
    refine Xk 15 z77 rfl rfl rfl rfl rfl rfl rfl ?_
    refine Qr sz77 rfl rfl rfl rfl rfl rfl rfl rfl rfl ?_
    refine Qe ?_
    refine Qn ?_
    refine Qc ?_
    refine Qa rfl rfl rfl rfl (Qd rfl) ?_
    refine Qa rfl rfl rfl rfl (Qd rfl) ?_
    obtain ⟨x25, hx25, hm⟩ := Qv hm
    refine Qa rfl rfl rfl rfl (Xi el25 rfl rfl hx25 rfl) ?_
    refine Qa rfl rfl rfl rfl (Qt ag77 sz77 rfl rfl rfl) ?_
    refine Xk 16 z77 rfl rfl rfl rfl rfl rfl rfl ?_
    refine Qr sz77 rfl rfl rfl rfl rfl rfl rfl rfl rfl ?_
    refine Qe ?_
    refine Qn ?_
    refine Qc ?_
    refine Qa rfl rfl rfl rfl (Qi fa77_0 rfl rfl) ?_
    refine Qa rfl rfl rfl rfl (Qj ag2 rfl rfl) ?_
    refine Qa rfl rfl rfl rfl (Qi fa77_0 rfl rfl) ?_
    refine Qa rfl rfl rfl rfl (Qj ag2 rfl rfl) ?_
    refine Qa rfl rfl rfl rfl (op_neq rfl rfl) ?_
    refine Qa rfl rfl rfl rfl (Qd rfl) ?_
    refine Xb 6 (fun _ : Unit => ⟨[(0, .sl 8 (List.map QZ p0)), (1, .sl 8 (List.map QZ p1)), (5, .int .i64 s0), (6, .ptr 15 0 0), (7, .ptr 16 0 0), (38, .bool ((!decide (x21.Kind = x25.Kind)) || (!decide (x21.Var = x25.Var))))], [(15, .box [.int .i64 x21.Kind, .int .i64 x21.Var, .int .i64 x21.Event, .int .i64 x21.Sum.Const, .sl 1 (List.map Qf x21.Sum.Coeffs), .int .i64 x21.Index.Const, .sl 1 (List.map Qf x21.Index.Coeffs), .sl 2 (List.map Qq x21.Facts)]), (16, .box [.int .i64 x25.Kind, .int .i64 x25.Var, .int .i64 x25.Event, .int .i64 x25.Sum.Const, .sl 1 (List.map Qf x25.Sum.Coeffs), .int .i64 x25.Index.Const, .sl 1 (List.map Qf x25.Index.Coeffs), .sl 2 (List.map Qq x25.Facts)])]⟩) (fun _ => True) (fun _ _ => ?_) (fun hjj => ?_)
    ·refine Qa rfl rfl rfl rfl (Qd rfl) ?_
     refine Xb 6 (fun _ : Unit => ⟨[(0, .sl 8 (List.map QZ p0)), (1, .sl 8 (List.map QZ p1)), (5, .int .i64 s0), (6, .ptr 15 0 0), (7, .ptr 16 0 0), (45, .bool (((!decide (x21.Kind = x25.Kind)) || (!decide (x21.Var = x25.Var))) || (!decide (x21.Event = x25.Event))))], [(15, .box [.int .i64 x21.Kind, .int .i64 x21.Var, .int .i64 x21.Event, .int .i64 x21.Sum.Const, .sl 1 (List.map Qf x21.Sum.Coeffs), .int .i64 x21.Index.Const, .sl 1 (List.map Qf x21.Index.Coeffs), .sl 2 (List.map Qq x21.Facts)]), (16, .box [.int .i64 x25.Kind, .int .i64 x25.Var, .int .i64 x25.Event, .int .i64 x25.Sum.Const, .sl 1 (List.map Qf x25.Sum.Coeffs), .int .i64 x25.Index.Const, .sl 1 (List.map Qf x25.Index.Coeffs), .sl 2 (List.map Qq x25.Facts)])]⟩) (fun _ => True) (fun _ _ => ?_) (fun hjj => ?_)
     ·refine Qa rfl rfl rfl rfl (Qd rfl) ?_
      refine Qy 46 rfl rfl rfl (fun hq => ?_) (fun hq => ?_)
      ·replace hm := QO hq hm
       refine Qh rfl rfl rfl rfl rfl rfl rfl ?_
       refine Qh rfl rfl rfl rfl rfl rfl rfl ?_
       refine Qh rfl rfl rfl rfl rfl rfl rfl ?_
       refine Qh rfl rfl rfl rfl rfl rfl rfl ?_
       refine Qh rfl rfl rfl rfl rfl rfl rfl ?_
       refine Qh rfl rfl rfl rfl rfl rfl rfl ?_
       refine Qa rfl rfl rfl rfl (Qp rfl rfl) ?_
       refine Qa rfl rfl rfl rfl (Qd rfl) ?_
       refine Qh rfl rfl rfl rfl rfl rfl rfl ?_
       refine Qh rfl rfl rfl rfl rfl rfl rfl ?_
       refine Qh rfl rfl rfl rfl rfl rfl rfl ?_
       refine Qh rfl rfl rfl rfl rfl rfl rfl ?_
       refine Qh rfl rfl rfl rfl rfl rfl rfl ?_
       refine Qh rfl rfl rfl rfl rfl rfl rfl ?_
       refine Qa rfl rfl rfl rfl (Qp rfl rfl) ?_
       refine Qa rfl rfl rfl rfl (Qd rfl) ?_
       refine Qh rfl rfl rfl rfl rfl rfl rfl ?_
       refine Qh rfl rfl rfl rfl rfl rfl rfl ?_
       refine Qh rfl rfl rfl rfl rfl rfl rfl ?_
       refine Qh rfl rfl rfl rfl rfl rfl rfl ?_
       refine Qh rfl rfl rfl rfl rfl rfl rfl ?_
       refine Qh rfl rfl rfl rfl rfl rfl rfl ?_
       refine Qa rfl rfl rfl rfl (Qp rfl rfl) ?_
       refine Qe ?_
       refine T_cond_true rfl ?_
       refine Qn ?_
       refine Qc ?_
       refine Qa rfl rfl rfl rfl (Qb rfl) ?_
       refine Qe ?_
       refine Qo [4] [] rfl rfl rfl rfl (by rw [hF]; rfl) ?_
       refine QB ?_
       obtain rfl := Qw hm
       have hn := Xv hc0
       exact hx0 (.inr false) hn
      ·replace hm := QM hq hm
       refine Qm rfl rfl ?_
       refine Qa rfl rfl rfl rfl (Qi fa77_3 rfl rfl) ?_
       refine Qm rfl rfl ?_
       refine Qa rfl rfl rfl rfl (Qt ag75 sz75 rfl rfl rfl) ?_
       refine Qm rfl rfl ?_
       refine Qa rfl rfl rfl rfl (Qi fa77_3 rfl rfl) ?_
       refine Qm rfl rfl ?_
       refine Qa rfl rfl rfl rfl (Qt ag75 sz75 rfl rfl rfl) ?_
       refine Qm rfl rfl ?_
       obtain ⟨r51, hr51, hm⟩ := Qv hm
       refine QG (c_laws_r8Term x21.Sum x25.Sum r51 hr51) Try.call70 rfl rfl rfl rfl rfl ?_
       refine Qm rfl rfl ?_
       refine Qa rfl rfl rfl rfl (op_not rfl) ?_
       refine Qa rfl rfl rfl rfl (Qk rfl rfl) ?_
       refine Qa rfl rfl rfl rfl (Qd rfl) ?_
       refine Qy 54 rfl rfl rfl (fun hq => ?_) (fun hq => ?_)
       ·replace hm := QO hq hm
        refine Qh rfl rfl rfl rfl rfl rfl rfl ?_
        refine Qh rfl rfl rfl rfl rfl rfl rfl ?_
        refine Qh rfl rfl rfl rfl rfl rfl rfl ?_
        refine Qh rfl rfl rfl rfl rfl rfl rfl ?_
        refine Qh rfl rfl rfl rfl rfl rfl rfl ?_
        refine Qh rfl rfl rfl rfl rfl rfl rfl ?_
        refine Qa rfl rfl rfl rfl (Qp rfl rfl) ?_
        refine Qa rfl rfl rfl rfl (Qd rfl) ?_
        refine Qh rfl rfl rfl rfl rfl rfl rfl ?_
        refine Qh rfl rfl rfl rfl rfl rfl rfl ?_
        refine Qh rfl rfl rfl rfl rfl rfl rfl ?_
        refine Qh rfl rfl rfl rfl rfl rfl rfl ?_
        refine Qh rfl rfl rfl rfl rfl rfl rfl ?_
        refine Qh rfl rfl rfl rfl rfl rfl rfl ?_
        refine Qa rfl rfl rfl rfl (Qp rfl rfl) ?_
        refine Qe ?_
        refine T_cond_true rfl ?_
        refine Qn ?_
        refine Qc ?_
        refine Qa rfl rfl rfl rfl (Qb rfl) ?_
        refine Qe ?_
        refine Qo [4] [] rfl rfl rfl rfl (by rw [hF]; rfl) ?_
        refine QB ?_
        obtain rfl := Qw hm
        have hn := Xv hc0
        exact hx0 (.inr false) hn
       ·replace hm := QM hq hm
        refine Qm rfl rfl ?_
        refine Qa rfl rfl rfl rfl (Qi fa77_4 rfl rfl) ?_
        refine Qm rfl rfl ?_
        refine Qa rfl rfl rfl rfl (Qt ag75 sz75 rfl rfl rfl) ?_
        refine Qm rfl rfl ?_
        refine Qa rfl rfl rfl rfl (Qi fa77_4 rfl rfl) ?_
        refine Qm rfl rfl ?_
        refine Qa rfl rfl rfl rfl (Qt ag75 sz75 rfl rfl rfl) ?_
        refine Qm rfl rfl ?_
        obtain ⟨r59, hr59, hm⟩ := Qv hm
        refine QG (c_laws_r8Term x21.Index x25.Index r59 hr59) Try.call70 rfl rfl rfl rfl rfl ?_
        refine Qm rfl rfl ?_
        refine Qa rfl rfl rfl rfl (op_not rfl) ?_
        refine Qa rfl rfl rfl rfl (Qk rfl rfl) ?_
        refine Qa rfl rfl rfl rfl (Qd rfl) ?_
        refine Qy 62 rfl rfl rfl (fun hq => ?_) (fun hq => ?_)
        ·replace hm := QO hq hm
         refine Qh rfl rfl rfl rfl rfl rfl rfl ?_
         refine Qh rfl rfl rfl rfl rfl rfl rfl ?_
         refine Qh rfl rfl rfl rfl rfl rfl rfl ?_
         refine Qh rfl rfl rfl rfl rfl rfl rfl ?_
         refine Qh rfl rfl rfl rfl rfl rfl rfl ?_
         refine Qh rfl rfl rfl rfl rfl rfl rfl ?_
         refine Qa rfl rfl rfl rfl (Qp rfl rfl) ?_
         refine Qe ?_
         refine T_cond_true rfl ?_
         refine Qn ?_
         refine Qc ?_
         refine Qa rfl rfl rfl rfl (Qb rfl) ?_
         refine Qe ?_
         refine Qo [4] [] rfl rfl rfl rfl (by rw [hF]; rfl) ?_
         refine QB ?_
         obtain rfl := Qw hm
         have hn := Xv hc0
         exact hx0 (.inr false) hn
        ·replace hm := QM hq hm
         refine Qm rfl rfl ?_
         refine Qa rfl rfl rfl rfl (Qi fa77_5 rfl rfl) ?_
         refine Qm rfl rfl ?_
         refine Qa rfl rfl rfl rfl (Qj ag24 rfl rfl) ?_
         refine Qm rfl rfl ?_
         refine Qa rfl rfl rfl rfl (Qi fa77_5 rfl rfl) ?_
         refine Qm rfl rfl ?_
         refine Qa rfl rfl rfl rfl (Qj ag24 rfl rfl) ?_
         refine Qm rfl rfl ?_
         obtain ⟨r67, hr67, hm⟩ := Qv hm
         refine QG (c_laws_r8Terms x21.Facts x25.Facts r67 hr67) Try.call71 rfl rfl rfl rfl rfl ?_
         refine Qm rfl rfl ?_
         refine Qa rfl rfl rfl rfl (op_not rfl) ?_
         refine Qa rfl rfl rfl rfl (Qk rfl rfl) ?_
         refine Qe ?_
         refine QI rfl (fun hq => ?_) (fun hq => ?_)
         ·replace hm := QO hq hm
          refine Qn ?_
          refine Qc ?_
          refine Qa rfl rfl rfl rfl (Qb rfl) ?_
          refine Qe ?_
          refine Qo [4] [] rfl rfl rfl rfl (by rw [hF]; rfl) ?_
          refine QB ?_
          obtain rfl := Qw hm
          have hn := Xv hc0
          exact hx0 (.inr false) hn
         ·replace hm := QM hq hm
          refine QL ?_
          refine Qc ?_
          refine Qa rfl rfl rfl rfl (Qd rfl) ?_
          refine Qa rfl rfl rfl rfl (op_addW rfl rfl) ?_
          refine Qa rfl rfl rfl rfl (Qb rfl) ?_
          refine Qe ?_
          refine Xw [0, 1, 5] [] rfl rfl rfl rfl (by rw [hF]; rfl) ?_
          obtain rfl := Qw hm
          have hn := Q7 hc0
          exact hn _ rfl
     ·refine Qy 39 rfl rfl rfl (fun hq => ?_) (fun hq => ?_)
      ·refine Qh rfl rfl rfl rfl rfl rfl rfl ?_
       refine Qh rfl rfl rfl rfl rfl rfl rfl ?_
       refine Qh rfl rfl rfl rfl rfl rfl rfl ?_
       refine Qh rfl rfl rfl rfl rfl rfl rfl ?_
       refine Qh rfl rfl rfl rfl rfl rfl rfl ?_
       refine Qa rfl rfl rfl rfl (Qp rfl rfl) ?_
       refine Qx [0, 1, 5, 6, 7, 45] [15, 16] rfl rfl rfl rfl (by rw [hF]; rfl) ?_
       exact QA _ (by first | (rw [hq, Bool.true_or]; done) | (rw [hq]; rfl)) (hjj () trivial)
      ·refine Qm rfl rfl ?_
       refine Qa rfl rfl rfl rfl (Qi fa77_2 rfl rfl) ?_
       refine Qm rfl rfl ?_
       refine Qa rfl rfl rfl rfl (Qj ag2 rfl rfl) ?_
       refine Qm rfl rfl ?_
       refine Qa rfl rfl rfl rfl (Qi fa77_2 rfl rfl) ?_
       refine Qm rfl rfl ?_
       refine Qa rfl rfl rfl rfl (Qj ag2 rfl rfl) ?_
       refine Qm rfl rfl ?_
       refine Qa rfl rfl rfl rfl (op_neq rfl rfl) ?_
       refine Qa rfl rfl rfl rfl (Qk rfl rfl) ?_
       refine Qx [0, 1, 5, 6, 7, 45] [15, 16] rfl rfl rfl rfl (by rw [hF]; rfl) ?_
       exact QA _ (by first | (rw [hq, Bool.false_or]; done) | (rw [hq]; rfl)) (hjj () trivial)
    ·refine Qy 32 rfl rfl rfl (fun hq => ?_) (fun hq => ?_)
     ·refine Qh rfl rfl rfl rfl rfl rfl rfl ?_
      refine Qh rfl rfl rfl rfl rfl rfl rfl ?_
      refine Qh rfl rfl rfl rfl rfl rfl rfl ?_
      refine Qh rfl rfl rfl rfl rfl rfl rfl ?_
      refine Qh rfl rfl rfl rfl rfl rfl rfl ?_
      refine Qa rfl rfl rfl rfl (Qp rfl rfl) ?_
      refine Qx [0, 1, 5, 6, 7, 38] [15, 16] rfl rfl rfl rfl (by rw [hF]; rfl) ?_
      exact QA _ (by first | (rw [hq, Bool.true_or]; done) | (rw [hq]; rfl)) (hjj () trivial)
     ·refine Qm rfl rfl ?_
      refine Qa rfl rfl rfl rfl (Qi fa77_1 rfl rfl) ?_
      refine Qm rfl rfl ?_
      refine Qa rfl rfl rfl rfl (Qj ag2 rfl rfl) ?_
      refine Qm rfl rfl ?_
      refine Qa rfl rfl rfl rfl (Qi fa77_1 rfl rfl) ?_
      refine Qm rfl rfl ?_
      refine Qa rfl rfl rfl rfl (Qj ag2 rfl rfl) ?_
      refine Qm rfl rfl ?_
      refine Qa rfl rfl rfl rfl (op_neq rfl rfl) ?_
      refine Qa rfl rfl rfl rfl (Qk rfl rfl) ?_
      refine Qx [0, 1, 5, 6, 7, 38] [15, 16] rfl rfl rfl rfl (by rw [hF]; rfl) ?_
      exact QA _ (by first | (rw [hq, Bool.false_or]; done) | (rw [hq]; rfl)) (hjj () trivial)
   ·replace hm := QM hq hm
    refine Qo [] [] rfl rfl rfl rfl (by rw [hF]; rfl) ?_
    refine T_exit ?_
    obtain rfl := Qw hm
    have hn := Xv hc0
    exact hx0 (.inl ()) hn
theorem c_impl_ValidProgram (p0 : Program) (out : Bool) (hm : m_impl_ValidProgram p0 = some out) : ACall Try.prog 19 [.agg [.sl 2 (List.map Qq p0.Pre), .sl 8 (List.map QZ p0.Body), .sl 2 (List.map Qq p0.Post)]] [] (.bool out) [] := by
 refine ACall.intro Try.func19 rfl Try.ntmps19 rfl (fun F hF => ?_)
 unfold m_impl_ValidProgram at hm
 refine Qn ?_
 refine Qc ?_
 refine TL_box 11 rfl rfl rfl rfl rfl rfl rfl ?_
 refine Qa rfl rfl rfl rfl (Qb rfl) ?_
 refine Qe ?_
 refine Qn ?_
 refine Qc ?_
 refine Qa rfl rfl rfl rfl (Qi fa27_1 rfl rfl) ?_
 refine Qa rfl rfl rfl rfl (Qj ag25 rfl rfl) ?_
 obtain ⟨r5, hr5, hm⟩ := Qv hm
 refine QG (c_impl_IsBody p0.Body r5 hr5) Try.call35 rfl rfl rfl rfl rfl ?_
 refine Qa rfl rfl rfl rfl (Qd rfl) ?_
 refine Qy 6 rfl rfl rfl (fun hq => ?_) (fun hq => ?_)
 ·replace hm := QO hq hm
  refine Qm rfl rfl ?_
  refine Qa rfl rfl rfl rfl (Qi fa27_0 rfl rfl) ?_
  refine Qm rfl rfl ?_
  refine Qa rfl rfl rfl rfl (Qj ag24 rfl rfl) ?_
  refine Qm rfl rfl ?_
  obtain ⟨r9, hr9, hm⟩ := Qv hm
  refine QG (c_impl_areOver p0.Pre (6 : Int) r9 hr9) Try.call49 rfl rfl rfl rfl rfl ?_
  refine Qa rfl rfl rfl rfl (Qp rfl rfl) ?_
  refine Qa rfl rfl rfl rfl (Qd rfl) ?_
  refine Qy 11 rfl rfl rfl (fun hq => ?_) (fun hq => ?_)
  ·replace hm := QO hq hm
   refine Qm rfl rfl ?_
   refine Qa rfl rfl rfl rfl (Qi fa27_2 rfl rfl) ?_
   refine Qm rfl rfl ?_
   refine Qa rfl rfl rfl rfl (Qj ag24 rfl rfl) ?_
   refine Qm rfl rfl ?_
   obtain ⟨r14, hr14, hm⟩ := Qv hm
   refine QG (c_impl_areOver p0.Post (6 : Int) r14 hr14) Try.call49 rfl rfl rfl rfl rfl ?_
   refine Qa rfl rfl rfl rfl (Qp rfl rfl) ?_
   refine Qa rfl rfl rfl rfl (Qb rfl) ?_
   refine Qe ?_
   refine Qo [2] [] rfl rfl rfl rfl (by rw [hF]; rfl) ?_
   refine QB ?_
   obtain rfl := Qw hm
   refine ⟨[_], [], ⟨rfl, trivial⟩, ?_, rfl, rfl, rfl, rfl⟩
   rfl
  ·replace hm := QM hq hm
   refine Qh rfl rfl rfl rfl rfl rfl rfl ?_
   refine Qh rfl rfl rfl rfl rfl rfl rfl ?_
   refine Qh rfl rfl rfl rfl rfl rfl rfl ?_
   refine Qa rfl rfl rfl rfl (Qk rfl rfl) ?_
   refine Qa rfl rfl rfl rfl (Qb rfl) ?_
   refine Qe ?_
   refine Qo [2] [] rfl rfl rfl rfl (by rw [hF]; rfl) ?_
   refine QB ?_
   obtain rfl := Qw hm
   refine ⟨[_], [], ⟨rfl, trivial⟩, ?_, rfl, rfl, rfl, rfl⟩
   rfl
 ·replace hm := QM hq hm
  refine Qh rfl rfl rfl rfl rfl rfl rfl ?_
  refine Qh rfl rfl rfl rfl rfl rfl rfl ?_
  refine Qh rfl rfl rfl rfl rfl rfl rfl ?_
  refine Qa rfl rfl rfl rfl (Qk rfl rfl) ?_
  refine Qa rfl rfl rfl rfl (Qd rfl) ?_
  refine Qh rfl rfl rfl rfl rfl rfl rfl ?_
  refine Qh rfl rfl rfl rfl rfl rfl rfl ?_
  refine Qh rfl rfl rfl rfl rfl rfl rfl ?_
  refine Qa rfl rfl rfl rfl (Qk rfl rfl) ?_
  refine Qa rfl rfl rfl rfl (Qb rfl) ?_
  refine Qe ?_
  refine Qo [2] [] rfl rfl rfl rfl (by rw [hF]; rfl) ?_
  refine QB ?_
  obtain rfl := Qw hm
  refine ⟨[_], [], ⟨rfl, trivial⟩, ?_, rfl, rfl, rfl, rfl⟩
  rfl
theorem c_impl_ValidState (p0 : State) (out : Bool) (hm : m_impl_ValidState p0 = some out) : ACall Try.prog 20 [.agg [.sl 1 (List.map Qf p0.Vars), .sl 1 (List.map Qf p0.Cells)]] [] (.bool out) [] := by
 refine ACall.intro Try.func20 rfl Try.ntmps20 rfl (fun F hF => ?_)
 unfold m_impl_ValidState at hm
 refine Qn ?_
 refine Qc ?_
 refine TL_box 11 rfl rfl rfl rfl rfl rfl rfl ?_
 refine Qa rfl rfl rfl rfl (Qb rfl) ?_
 refine Qe ?_
 refine Qn ?_
 refine Qc ?_
 refine Qa rfl rfl rfl rfl (Qi fa31_0 rfl rfl) ?_
 refine Qa rfl rfl rfl rfl (Qj ag29 rfl rfl) ?_
 refine Qa rfl rfl rfl rfl (Xm Try.underlying29 rfl (List.length_map _)) ?_
 refine Xy (fun _ _ _ hr => RelP.slLen (i := 4) rfl hr) (fun hlen5 => ?_)
 rw [List.length_map] at hlen5
 refine Qa rfl rfl rfl rfl (Xq rfl rfl) ?_
 refine Qa rfl rfl rfl rfl (Qd rfl) ?_
 refine Xb 5 (fun _ : Unit => ⟨[(1, .ptr 11 0 0), (12, .bool ((decide ((p0.Vars.length : Int) = (4 : Int))) && (decide ((p0.Cells.length : Int) = (8 : Int)))))], [(11, .box [.sl 1 (List.map Qf p0.Vars), .sl 1 (List.map Qf p0.Cells)])]⟩) (fun _ => True) (fun _ _ => ?_) (fun hjj => ?_)
 ·refine Qa rfl rfl rfl rfl (Qd rfl) ?_
  refine Qy 13 rfl rfl rfl (fun hq => ?_) (fun hq => ?_)
  ·replace hm := QO hq hm
   refine Qm rfl rfl ?_
   refine Qa rfl rfl rfl rfl (Qi fa31_0 rfl rfl) ?_
   refine Qm rfl rfl ?_
   refine Qa rfl rfl rfl rfl (Qj ag29 rfl rfl) ?_
   refine Qm rfl rfl ?_
   obtain ⟨r16, hr16, hm⟩ := Qv hm
   refine QG (c_impl_allWithin p0.Vars (-1000000000 : Int) (1000000000 : Int) r16 hr16) Try.call50 rfl rfl rfl rfl rfl ?_
   refine Qa rfl rfl rfl rfl (Qp rfl rfl) ?_
   refine Qa rfl rfl rfl rfl (Qd rfl) ?_
   refine Qy 18 rfl rfl rfl (fun hq => ?_) (fun hq => ?_)
   ·replace hm := QO hq hm
    refine Qm rfl rfl ?_
    refine Qa rfl rfl rfl rfl (Qi fa31_1 rfl rfl) ?_
    refine Qm rfl rfl ?_
    refine Qa rfl rfl rfl rfl (Qj ag29 rfl rfl) ?_
    refine Qm rfl rfl ?_
    obtain ⟨r21, hr21, hm⟩ := Qv hm
    refine QG (c_impl_allWithin p0.Cells (-1000000000 : Int) (1000000000 : Int) r21 hr21) Try.call50 rfl rfl rfl rfl rfl ?_
    refine Qa rfl rfl rfl rfl (Qp rfl rfl) ?_
    refine Qa rfl rfl rfl rfl (Qb rfl) ?_
    refine Qe ?_
    refine Qo [2] [] rfl rfl rfl rfl (by rw [hF]; rfl) ?_
    refine QB ?_
    obtain rfl := Qw hm
    refine ⟨[_], [], ⟨rfl, trivial⟩, ?_, rfl, rfl, rfl, rfl⟩
    rfl
   ·replace hm := QM hq hm
    refine Qh rfl rfl rfl rfl rfl rfl rfl ?_
    refine Qh rfl rfl rfl rfl rfl rfl rfl ?_
    refine Qh rfl rfl rfl rfl rfl rfl rfl ?_
    refine Qa rfl rfl rfl rfl (Qk rfl rfl) ?_
    refine Qa rfl rfl rfl rfl (Qb rfl) ?_
    refine Qe ?_
    refine Qo [2] [] rfl rfl rfl rfl (by rw [hF]; rfl) ?_
    refine QB ?_
    obtain rfl := Qw hm
    refine ⟨[_], [], ⟨rfl, trivial⟩, ?_, rfl, rfl, rfl, rfl⟩
    rfl
  ·replace hm := QM hq hm
   refine Qh rfl rfl rfl rfl rfl rfl rfl ?_
   refine Qh rfl rfl rfl rfl rfl rfl rfl ?_
   refine Qh rfl rfl rfl rfl rfl rfl rfl ?_
   refine Qa rfl rfl rfl rfl (Qk rfl rfl) ?_
   refine Qa rfl rfl rfl rfl (Qd rfl) ?_
   refine Qh rfl rfl rfl rfl rfl rfl rfl ?_
   refine Qh rfl rfl rfl rfl rfl rfl rfl ?_
   refine Qh rfl rfl rfl rfl rfl rfl rfl ?_
   refine Qa rfl rfl rfl rfl (Qk rfl rfl) ?_
   refine Qa rfl rfl rfl rfl (Qb rfl) ?_
   refine Qe ?_
   refine Qo [2] [] rfl rfl rfl rfl (by rw [hF]; rfl) ?_
   refine QB ?_
   obtain rfl := Qw hm
   refine ⟨[_], [], ⟨rfl, trivial⟩, ?_, rfl, rfl, rfl, rfl⟩
   rfl
 ·refine Qy 7 rfl rfl rfl (fun hq => ?_) (fun hq => ?_)
  ·refine Qm rfl rfl ?_
   refine Qa rfl rfl rfl rfl (Qi fa31_1 rfl rfl) ?_
   refine Qm rfl rfl ?_
   refine Qa rfl rfl rfl rfl (Qj ag29 rfl rfl) ?_
   refine Qm rfl rfl ?_
   refine Qa rfl rfl rfl rfl (Xm Try.underlying29 rfl (List.length_map _)) ?_
   refine Xy (fun _ _ _ hr => RelP.slLen (i := 9) rfl hr) (fun hlen10 => ?_)
   rw [List.length_map] at hlen10
   refine Qm rfl rfl ?_
   refine Qa rfl rfl rfl rfl (Xq rfl rfl) ?_
   refine Qa rfl rfl rfl rfl (Qp rfl rfl) ?_
   refine Qx [1, 12] [11] rfl rfl rfl rfl (by rw [hF]; rfl) ?_
   exact QA _ (by first | (rw [hq, Bool.true_and]; done) | (rw [hq]; rfl)) (hjj () trivial)
  ·refine Qh rfl rfl rfl rfl rfl rfl rfl ?_
   refine Qh rfl rfl rfl rfl rfl rfl rfl ?_
   refine Qh rfl rfl rfl rfl rfl rfl rfl ?_
   refine Qh rfl rfl rfl rfl rfl rfl rfl ?_
   refine Qa rfl rfl rfl rfl (Qk rfl rfl) ?_
   refine Qx [1, 12] [11] rfl rfl rfl rfl (by rw [hF]; rfl) ?_
   exact QA _ (by first | (rw [hq, Bool.false_and]; done) | (rw [hq]; rfl)) (hjj () trivial)
theorem c_impl_State_own (p0 : State) (out : State) (hm : m_impl_State_own p0 = some out) : ACall Try.prog 85 [.agg [.sl 1 (List.map Qf p0.Vars), .sl 1 (List.map Qf p0.Cells)]] [] (.agg [.ow 1000, .ow 1001]) [(1000, .arr ⟨false, true⟩ 1 2 (List.map Qf out.Vars)), (1001, .arr ⟨false, true⟩ 1 2 (List.map Qf out.Cells))] := by
 refine ACall.intro Try.func85 rfl Try.ntmps85 rfl (fun F hF => ?_)
 unfold m_impl_State_own at hm
 refine Qn ?_
 refine Qc ?_
 refine TL_box 11 rfl rfl rfl rfl rfl rfl rfl ?_
 refine Xk 12 z31 rfl rfl rfl rfl rfl rfl rfl ?_
 refine Qe ?_
 refine Qn ?_
 refine T_drawZ [7] mix (by kernel_rfl) rfl ?_
 obtain ⟨r5, hr5, hm⟩ := Qv hm
 obtain ⟨r8, hr8, hm⟩ := Qv hm
 refine Ql 0 (by kernel_rfl) rfl rfl rfl rfl rfl (Qi fa31_0 rfl rfl) ?_
 refine Ql 1 (by kernel_rfl) rfl rfl rfl rfl rfl (Qj ag29 rfl rfl) ?_
 refine Ql 3 (by kernel_rfl) rfl rfl rfl rfl rfl (Qi fa31_1 rfl rfl) ?_
 refine Ql 4 (by kernel_rfl) rfl rfl rfl rfl rfl (Qj ag29 rfl rfl) ?_
 refine QF 2 (by kernel_rfl) rfl ?_
 refine TL_callO [(1000, 15)] (c_impl_copyInts p0.Vars r5 hr5) Try.call116 rfl rfl rfl rfl rfl rfl rfl rfl rfl rfl rfl rfl rfl ?_
 refine Qe ?_
 refine QF 5 (by kernel_rfl) rfl ?_
 refine TL_callO [(1000, 16)] (c_impl_copyInts p0.Cells r8 hr8) Try.call116 rfl rfl rfl rfl rfl rfl rfl rfl rfl rfl rfl rfl rfl ?_
 refine Qe ?_
 refine Ql 6 (by kernel_rfl) rfl rfl rfl rfl rfl (Xn pl31 z31 rfl rfl rfl rfl rfl) ?_
 refine QF 7 (by kernel_rfl) rfl ?_
 refine Qr sz31 rfl rfl rfl rfl rfl rfl rfl rfl rfl ?_
 refine Qe ?_
 refine Q8 (by kernel_rfl) ?_
 refine Qo [2] [12, 15, 16] rfl rfl rfl rfl (by rw [hF]; rfl) ?_
 refine T_ren [(12, 12), (15, 1000), (16, 1001)] rfl rfl rfl (by rw [hF]; rfl) ?_
 refine QB ?_
 obtain rfl := Qw hm
 refine ⟨[_], [1000, 1001], ⟨⟨_, _, rfl, rfl, .inr ⟨ag31, _, _, sz31, rfl, rfl⟩⟩, trivial⟩, ?_, rfl, rfl, rfl, rfl⟩
 rfl
theorem c_impl_running_step (p0 : running) (out : Bool × running) (hm : m_impl_running_step p0 = some out) : ACall Try.prog 117 [.ptr 0 0 0] [(0, .box [.ow 1, .ow 2, .ow 3, .int .i64 p0.fuel, .int .i64 p0.steps, .int .i64 p0.out]), (1, .arr ⟨true, true⟩ 1 2 (List.map Qf p0.state.Vars)), (2, .arr ⟨true, true⟩ 1 2 (List.map Qf p0.state.Cells)), (3, .arr ⟨false, true⟩ 1 2 (List.map Qf p0.events))] (.bool out.1) [(0, .box [.ow 1, .ow 2, .ow 3, .int .i64 out.2.fuel, .int .i64 out.2.steps, .int .i64 out.2.out]), (1, .arr ⟨true, true⟩ 1 2 (List.map Qf out.2.state.Vars)), (2, .arr ⟨true, true⟩ 1 2 (List.map Qf out.2.state.Cells)), (3, .arr ⟨false, true⟩ 1 2 (List.map Qf out.2.events))] := by
 refine ACall.intro Try.func117 rfl Try.ntmps117 rfl (fun F hF => ?_)
 unfold m_impl_running_step at hm
 refine Qn ?_
 refine Qc ?_
 refine Qa rfl rfl rfl rfl (Qb rfl) ?_
 refine Qe ?_
 refine Qn ?_
 refine Qn ?_
 refine T_drawZ [] mix (by kernel_rfl) rfl ?_
 refine Ql 0 (by kernel_rfl) rfl rfl rfl rfl rfl (Qd rfl) ?_
 refine Ql 1 (by kernel_rfl) rfl rfl rfl rfl rfl (Qs rfl rfl) ?_
 refine Ql 2 (by kernel_rfl) rfl rfl rfl rfl rfl (Qi fa73_3 rfl rfl) ?_
 refine Ql 3 (by kernel_rfl) rfl rfl rfl rfl rfl (Qj ag2 rfl rfl) ?_
 refine Ql 4 (by kernel_rfl) rfl rfl rfl rfl rfl (Qd rfl) ?_
 refine Ql 5 (by kernel_rfl) rfl rfl rfl rfl rfl (Qs rfl rfl) ?_
 refine Ql 6 (by kernel_rfl) rfl rfl rfl rfl rfl (Qi fa73_2 rfl rfl) ?_
 refine Ql 7 (by kernel_rfl) rfl rfl rfl rfl rfl (Qj ag2 rfl rfl) ?_
 refine Ql 8 (by kernel_rfl) rfl rfl rfl rfl rfl (Xq rfl rfl) ?_
 refine Q8 (by kernel_rfl) ?_
 refine QI rfl (fun hq => ?_) (fun hq => ?_)
 ·replace hm := QO hq hm
  refine Qn ?_
  refine Qc ?_
  refine Qa rfl rfl rfl rfl (Qd rfl) ?_
  refine Qa rfl rfl rfl rfl (Qs rfl rfl) ?_
  refine Qa rfl rfl rfl rfl (Qi fa73_4 rfl rfl) ?_
  refine Qr sz2 rfl rfl rfl rfl rfl rfl rfl rfl rfl ?_
  refine Qe ?_
  refine Qn ?_
  refine Qc ?_
  refine Qa rfl rfl rfl rfl (Qb rfl) ?_
  refine Qe ?_
  refine Qo [2] [0, 1, 2, 3] rfl rfl rfl rfl (by rw [hF]; rfl) ?_
  refine QB ?_
  obtain rfl := Qw hm
  refine ⟨[_], [0, 1, 2, 3], ⟨rfl, trivial⟩, ?_, rfl, rfl, rfl, rfl⟩
  rfl
 ·replace hm := QM hq hm
  refine QL ?_
  refine Qn ?_
  refine Qc ?_
  refine Qa rfl rfl rfl rfl (Qd rfl) ?_
  refine Qa rfl rfl rfl rfl (Qs rfl rfl) ?_
  refine Qa rfl rfl rfl rfl (Qi fa73_3 rfl rfl) ?_
  refine Qa rfl rfl rfl rfl (Qj ag2 rfl rfl) ?_
  refine Qa rfl rfl rfl rfl (op_addW rfl rfl) ?_
  refine Qa rfl rfl rfl rfl (Qs rfl rfl) ?_
  refine Qa rfl rfl rfl rfl (Qi fa73_3 rfl rfl) ?_
  refine Qr sz2 rfl rfl rfl rfl rfl rfl rfl rfl rfl ?_
  refine Qe ?_
  refine Qn ?_
  refine Qc ?_
  refine Qa rfl rfl rfl rfl (Qb rfl) ?_
  refine Qe ?_
  refine Qo [2] [0, 1, 2, 3] rfl rfl rfl rfl (by rw [hF]; rfl) ?_
  refine QB ?_
  obtain rfl := Qw hm
  refine ⟨[_], [0, 1, 2, 3], ⟨rfl, trivial⟩, ?_, rfl, rfl, rfl, rfl⟩
  rfl
theorem c_impl_Term_eval (p0 : Term) (p1 : List Int) (out : Int) (hm : m_impl_Term_eval p0 p1 = some out) : ACall Try.prog 118 [.agg [.int .i64 p0.Const, .sl 1 (List.map Qf p0.Coeffs)], .sl 1 (List.map Qf p1)] [] (.int .i64 out) [] := by
 refine ACall.intro Try.func118 rfl Try.ntmps118 rfl (fun F hF => ?_)
 unfold m_impl_Term_eval at hm
 refine Qn ?_
 refine Qc ?_
 refine TL_box 11 rfl rfl rfl rfl rfl rfl rfl ?_
 refine Qa rfl rfl rfl rfl (Qb rfl) ?_
 refine Qe ?_
 refine Qn ?_
 refine Qc ?_
 refine Qa rfl rfl rfl rfl (Qi fa75_0 rfl rfl) ?_
 refine Qa rfl rfl rfl rfl (Qj ag2 rfl rfl) ?_
 refine Qa rfl rfl rfl rfl (Qb rfl) ?_
 refine Qe ?_
 refine Qn ?_
 refine Qn ?_
 refine Qc ?_
 refine Qa rfl rfl rfl rfl (Qi fa75_1 rfl rfl) ?_
 refine Qa rfl rfl rfl rfl (Qj ag29 rfl rfl) ?_
 refine Qa rfl rfl rfl rfl (Xm Try.underlying29 rfl (List.length_map _)) ?_
 refine Xy (fun _ _ _ hr => RelP.slLen (i := 11) rfl hr) (fun hlen12 => ?_)
 rw [List.length_map] at hlen12
 refine Qa rfl rfl rfl rfl (Qd rfl) ?_
 refine Qe ?_
 refine Xd ?_
 refine Qo [1, 5, 11, 12, 13] [] rfl rfl rfl rfl (by rw [hF]; rfl) ?_
 refine T_loop ?_
 obtain ⟨u0, hl0, hm⟩ := Qv hm
 refine TR_forL2 p0.Coeffs (m_impl_Term_eval_L0 p1) (fun (s0 : Int) => s0) (fun n0 (s0 : Int) => ⟨[(1, .sl 1 (List.map Qf p1)), (5, .int .i64 s0), (11, .sl 1 (List.map Qf p0.Coeffs)), (12, .int .i64 (p0.Coeffs.length : Int)), (13, .int .i64 (n0 : Int))], []⟩) (fun u0 => .exit 0) (fun u0 => ⟨[(5, .int .i64 u0)], []⟩) (fun u0 => m_impl_Term_eval_A0 u0 = some out) hl0 hm (fun u0 hm => ?_) (fun hx0 s0 hm => ?_) (fun hx0 n0 x0 s0 c0 hxn0 hlt0 hm hc0 => ?_)
 ·unfold m_impl_Term_eval_A0 at hm
  refine Qn ?_
  refine Qc ?_
  refine Qa rfl rfl rfl rfl (Qd rfl) ?_
  refine Qa rfl rfl rfl rfl (Qb rfl) ?_
  refine Qe ?_
  refine Qo [4] [] rfl rfl rfl rfl (by rw [hF]; rfl) ?_
  refine QB ?_
  obtain rfl := Qw hm
  refine ⟨[_], [], ⟨rfl, trivial⟩, ?_, rfl, rfl, rfl, rfl⟩
  rfl
 ·refine Qn ?_
  refine Qc ?_
  refine Qa rfl rfl rfl rfl (op_lss rfl rfl) ?_
  refine Qe ?_
  refine Qn ?_
  refine T_if_false rfl (decide_eq_false (by simp)) ?_
  refine Qo [5] [] rfl rfl rfl rfl (by rw [hF]; rfl) ?_
  refine T_exit ?_
  exact hx0 s0 hm
 ·unfold m_impl_Term_eval_L0 at hm
  refine Qn ?_
  refine Qc ?_
  refine Qa rfl rfl rfl rfl (op_lss rfl rfl) ?_
  refine Qe ?_
  refine Qn ?_
  refine T_if_true rfl (decide_eq_true (Int.ofNat_lt.2 hlt0)) ?_
  refine QL ?_
  refine Qn ?_
  refine Xd ?_
  refine Qn ?_
  refine Qc ?_
  refine Qa rfl rfl rfl rfl (Qd rfl) ?_
  refine Qa rfl rfl rfl rfl (op_index_sl el29 rfl rfl rfl (get_map hxn0) rfl) ?_
  refine Qa rfl rfl rfl rfl (Qj ag2 rfl rfl) ?_
  refine Qa rfl rfl rfl rfl (Qb rfl) ?_
  refine Qa rfl rfl rfl rfl (Qb rfl) ?_
  refine Qe ?_
  refine Qc ?_
  refine Qa rfl rfl rfl rfl (Qd rfl) ?_
  refine Qa rfl rfl rfl rfl (Qd rfl) ?_
  refine Qa rfl rfl rfl rfl (Qd rfl) ?_
  refine Qa rfl rfl rfl rfl (Qd rfl) ?_
  obtain ⟨x22, hx22, hm⟩ := Qv hm
  refine Qa rfl rfl rfl rfl (Xi el29 rfl rfl hx22 rfl) ?_
  refine Qa rfl rfl rfl rfl (Qj ag2 rfl rfl) ?_
  refine Qa rfl rfl rfl rfl (op_mulW rfl rfl) ?_
  refine Qa rfl rfl rfl rfl (op_addW rfl rfl) ?_
  refine Qa rfl rfl rfl rfl (Qb rfl) ?_
  refine Qe ?_
  refine Qc ?_
  refine Qa rfl rfl rfl rfl (op_addN rfl rfl (Nat.lt_of_lt_of_le hlt0 hlen12)) ?_
  refine Qa rfl rfl rfl rfl (Qd rfl) ?_
  refine Qe ?_
  refine Xw [1, 5, 11, 12, 13] [] rfl rfl rfl rfl (by rw [hF]; rfl) ?_
  obtain rfl := Qw hm
  have hn := Q7 hc0
  exact hn _ rfl
theorem c_impl_running_stop (p0 : running) (p1 : Int) (out : Bool × running) (hm : m_impl_running_stop p0 p1 = some out) : ACall Try.prog 119 [.ptr 0 0 0, .int .i64 p1] [(0, .box [.ow 1, .ow 2, .ow 3, .int .i64 p0.fuel, .int .i64 p0.steps, .int .i64 p0.out]), (1, .arr ⟨true, true⟩ 1 2 (List.map Qf p0.state.Vars)), (2, .arr ⟨true, true⟩ 1 2 (List.map Qf p0.state.Cells)), (3, .arr ⟨false, true⟩ 1 2 (List.map Qf p0.events))] (.bool out.1) [(0, .box [.ow 1, .ow 2, .ow 3, .int .i64 out.2.fuel, .int .i64 out.2.steps, .int .i64 out.2.out]), (1, .arr ⟨true, true⟩ 1 2 (List.map Qf out.2.state.Vars)), (2, .arr ⟨true, true⟩ 1 2 (List.map Qf out.2.state.Cells)), (3, .arr ⟨false, true⟩ 1 2 (List.map Qf out.2.events))] := by
 refine ACall.intro Try.func119 rfl Try.ntmps119 rfl (fun F hF => ?_)
 unfold m_impl_running_stop at hm
 refine Qn ?_
 refine Qc ?_
 refine Qa rfl rfl rfl rfl (Qb rfl) ?_
 refine Qe ?_
 refine Qn ?_
 refine Qc ?_
 refine Qa rfl rfl rfl rfl (Qd rfl) ?_
 refine Qa rfl rfl rfl rfl (Qd rfl) ?_
 refine Qa rfl rfl rfl rfl (Qs rfl rfl) ?_
 refine Qa rfl rfl rfl rfl (Qi fa73_4 rfl rfl) ?_
 refine Qr sz2 rfl rfl rfl rfl rfl rfl rfl rfl rfl ?_
 refine Qe ?_
 refine Qn ?_
 refine Qc ?_
 refine Qa rfl rfl rfl rfl (Qb rfl) ?_
 refine Qe ?_
 refine Qo [4] [0, 1, 2, 3] rfl rfl rfl rfl (by rw [hF]; rfl) ?_
 refine QB ?_
 obtain rfl := Qw hm
 refine ⟨[_], [0, 1, 2, 3], ⟨rfl, trivial⟩, ?_, rfl, rfl, rfl, rfl⟩
 rfl
theorem c_impl_isInt (p0 : Int) (out : Bool) (hm : m_impl_isInt p0 = some out) : ACall Try.prog 120 [.int .i64 p0] [] (.bool out) [] := by
 refine ACall.intro Try.func120 rfl Try.ntmps120 rfl (fun F hF => ?_)
 unfold m_impl_isInt at hm
 refine Qn ?_
 refine Qc ?_
 refine Qa rfl rfl rfl rfl (Qb rfl) ?_
 refine Qe ?_
 refine Qn ?_
 refine Qc ?_
 refine Qa rfl rfl rfl rfl (Qd rfl) ?_
 obtain ⟨r4, hr4, hm⟩ := Qv hm
 refine QG (c_impl_within p0 (-1000000000 : Int) (1000000000 : Int) r4 hr4) Try.call84 rfl rfl rfl rfl rfl ?_
 refine Qa rfl rfl rfl rfl (Qb rfl) ?_
 refine Qe ?_
 refine Qo [2] [] rfl rfl rfl rfl (by rw [hF]; rfl) ?_
 refine QB ?_
 obtain rfl := Qw hm
 refine ⟨[_], [], ⟨rfl, trivial⟩, ?_, rfl, rfl, rfl, rfl⟩
 rfl
end Go.Mod
