import Derived.Test.YtagnekdlhllndaaGh
namespace Go.Mod
open Go Go.AM Go.Proofs
set_option linter.unusedVariables false
set_option linter.unusedSimpArgs false
set_option maxRecDepth 100000
set_option maxHeartbeats 8000000
theorem c_impl_running_run_F (rec_impl_running_run : running → Ptree → Option (Bool × running)) (hrec_impl_running_run : ∀ (p0 : running) (p1 : Ptree) (out : Bool × running), rec_impl_running_run p0 p1 = some out → ACall Try.prog 86 [.ptr 0 0 0, Qg p1] [(0, .box [.ow 1, .ow 2, .ow 3, .int .i64 p0.fuel, .int .i64 p0.steps, .int .i64 p0.out]), (1, .arr ⟨true, true⟩ 1 2 (List.map Qf p0.state.Vars)), (2, .arr ⟨true, true⟩ 1 2 (List.map Qf p0.state.Cells)), (3, .arr ⟨false, true⟩ 1 2 (List.map Qf p0.events))] (.bool out.1) [(0, .box [.ow 1, .ow 2, .ow 3, .int .i64 out.2.fuel, .int .i64 out.2.steps, .int .i64 out.2.out]), (1, .arr ⟨true, true⟩ 1 2 (List.map Qf out.2.state.Vars)), (2, .arr ⟨true, true⟩ 1 2 (List.map Qf out.2.state.Cells)), (3, .arr ⟨false, true⟩ 1 2 (List.map Qf out.2.events))]) (p0 : running) (p1 : Ptree) (out : Bool × running) (hm : m_impl_running_run_F rec_impl_running_run p0 p1 = some out) : ACall Try.prog 86 [.ptr 0 0 0, Qg p1] [(0, .box [.ow 1, .ow 2, .ow 3, .int .i64 p0.fuel, .int .i64 p0.steps, .int .i64 p0.out]), (1, .arr ⟨true, true⟩ 1 2 (List.map Qf p0.state.Vars)), (2, .arr ⟨true, true⟩ 1 2 (List.map Qf p0.state.Cells)), (3, .arr ⟨false, true⟩ 1 2 (List.map Qf p0.events))] (.bool out.1) [(0, .box [.ow 1, .ow 2, .ow 3, .int .i64 out.2.fuel, .int .i64 out.2.steps, .int .i64 out.2.out]), (1, .arr ⟨true, true⟩ 1 2 (List.map Qf out.2.state.Vars)), (2, .arr ⟨true, true⟩ 1 2 (List.map Qf out.2.state.Cells)), (3, .arr ⟨false, true⟩ 1 2 (List.map Qf out.2.events))] := by
 refine ACall.intro Try.func86 rfl Try.ntmps86 rfl (fun F hF => ?_)
 unfold m_impl_running_run_F at hm
 refine Qn ?_
 refine Qc ?_
 refine Qa rfl rfl rfl rfl (Qb rfl) ?_
 refine Qe ?_
 refine Qn ?_
 refine Qc ?_
 refine Qa rfl rfl rfl rfl (Qd rfl) ?_
 refine Qa rfl rfl rfl rfl (Qs rfl rfl) ?_
 refine Qa rfl rfl rfl rfl (Qi fa73_0 rfl rfl) ?_
 refine Qa rfl rfl rfl rfl (Qi fa31_0 rfl rfl) ?_
 refine Qa rfl rfl rfl rfl (Qj ag29 rfl rfl) ?_
 refine Qa rfl rfl rfl rfl (Qb rfl) ?_
 refine Qe ?_
 refine T_join (fun (j0 : (List Int) × (List Int) × (List Int) × Int × Int × Int) => ⟨[(0, .ptr 0 0 0), (1, Qg p1), (5, .ow 1)], [(0, .box [.ow 1, .ow 2, .ow 3, .int .i64 j0.2.2.2.1, .int .i64 j0.2.2.2.2.1, .int .i64 j0.2.2.2.2.2]), (1, .arr ⟨true, true⟩ 1 2 (List.map Qf j0.1)), (2, .arr ⟨true, true⟩ 1 2 (List.map Qf j0.2.1)), (3, .arr ⟨false, true⟩ 1 2 (List.map Qf j0.2.2.1))]⟩) (fun j0 => Xe rec_impl_running_run p1 j0 = some out) (fun j0 hm => ?_) (fun hj0 => ?_)
 ·unfold Xe at hm
  refine Qn ?_
  refine Qc ?_
  refine Qa rfl rfl rfl rfl (Qb rfl) ?_
  refine Qa rfl rfl rfl rfl (Qb rfl) ?_
  refine Qe ?_
  refine T_join (fun (j1 : Int × Int) => ⟨[(0, .ptr 0 0 0), (1, Qg p1), (5, .ow 1), (6, .int .i64 j1.1), (7, .int .i64 j1.2)], [(0, .box [.ow 1, .ow 2, .ow 3, .int .i64 j0.2.2.2.1, .int .i64 j0.2.2.2.2.1, .int .i64 j0.2.2.2.2.2]), (1, .arr ⟨true, true⟩ 1 2 (List.map Qf j0.1)), (2, .arr ⟨true, true⟩ 1 2 (List.map Qf j0.2.1)), (3, .arr ⟨false, true⟩ 1 2 (List.map Qf j0.2.2.1))]⟩) (fun j1 => Q1 rec_impl_running_run p1 j0 j1 = some out) (fun j1 hm => ?_) (fun hj1 => ?_)
  ·unfold Q1 at hm
   refine T_join (fun (j2 : Unit) => ⟨[(0, .ptr 0 0 0), (1, Qg p1), (5, .ow 1), (6, .int .i64 j1.1), (7, .int .i64 j1.2)], [(0, .box [.ow 1, .ow 2, .ow 3, .int .i64 j0.2.2.2.1, .int .i64 j0.2.2.2.2.1, .int .i64 j0.2.2.2.2.2]), (1, .arr ⟨true, true⟩ 1 2 (List.map Qf j0.1)), (2, .arr ⟨true, true⟩ 1 2 (List.map Qf j0.2.1)), (3, .arr ⟨false, true⟩ 1 2 (List.map Qf j0.2.2.1))]⟩) (fun j2 => Q5 rec_impl_running_run p1 j0 j1 j2 = some out) (fun j2 hm => ?_) (fun hj2 => ?_)
   ·unfold Q5 at hm
    refine T_join (fun (j3 : Unit) => ⟨[(0, .ptr 0 0 0), (1, Qg p1), (5, .ow 1), (6, .int .i64 j1.1), (7, .int .i64 j1.2)], [(0, .box [.ow 1, .ow 2, .ow 3, .int .i64 j0.2.2.2.1, .int .i64 j0.2.2.2.2.1, .int .i64 j0.2.2.2.2.2]), (1, .arr ⟨true, true⟩ 1 2 (List.map Qf j0.1)), (2, .arr ⟨true, true⟩ 1 2 (List.map Qf j0.2.1)), (3, .arr ⟨false, true⟩ 1 2 (List.map Qf j0.2.2.1))]⟩) (fun j3 => Q6 rec_impl_running_run p1 j0 j1 j3 = some out) (fun j3 hm => ?_) (fun hj3 => ?_)
    ·unfold Q6 at hm
     refine Qn ?_
     refine Qn ?_
     refine Qc ?_
     refine Qa rfl rfl rfl rfl (Qd rfl) ?_
     obtain ⟨o94, ho94, hm⟩ := Qv hm
     refine TL_trAt 94 (x' := .cp [.int .i64 o94.Stmt.Kind, .int .i64 o94.Stmt.Var, .int .i64 o94.Stmt.Event, .int .i64 o94.Stmt.Sum.Const, .sl 1 (List.map Qf o94.Stmt.Sum.Coeffs), .int .i64 o94.Stmt.Index.Const, .sl 1 (List.map Qf o94.Stmt.Index.Coeffs), .sl 2 (List.map Qq o94.Stmt.Facts), .int .i64 o94.at_, .sl 1 (List.map Qg o94.kids)]) rfl (Xh (QV ho94)) rfl ?_
     refine Qa rfl rfl rfl rfl (Qs rfl rfl) ?_
     refine Qa rfl rfl rfl rfl (Qu (n := 8) fa132_0 rfl rfl rfl) ?_
     refine Qa rfl rfl rfl rfl (Qu (n := 1) fa77_0 rfl rfl rfl) ?_
     refine Qa rfl rfl rfl rfl (Qj ag2 rfl rfl) ?_
     refine Qe ?_
     refine Xd ?_
     refine Qn ?_
     refine Qc ?_
     refine Qa rfl rfl rfl rfl (Xq rfl rfl) ?_
     refine Qa rfl rfl rfl rfl (Qb rfl) ?_
     refine Qe ?_
     refine QI rfl (fun hq => ?_) (fun hq => ?_)
     ·replace hm := QO hq hm
      refine Qn ?_
      refine Qc ?_
      refine Qa rfl rfl rfl rfl (Qd rfl) ?_
      refine Qa rfl rfl rfl rfl (Qd rfl) ?_
      refine TL_trAt 102 (x' := .cp [.int .i64 o94.Stmt.Kind, .int .i64 o94.Stmt.Var, .int .i64 o94.Stmt.Event, .int .i64 o94.Stmt.Sum.Const, .sl 1 (List.map Qf o94.Stmt.Sum.Coeffs), .int .i64 o94.Stmt.Index.Const, .sl 1 (List.map Qf o94.Stmt.Index.Coeffs), .sl 2 (List.map Qq o94.Stmt.Facts), .int .i64 o94.at_, .sl 1 (List.map Qg o94.kids)]) rfl (Xh (QV ho94)) rfl ?_
      refine Qa rfl rfl rfl rfl (Qs rfl rfl) ?_
      refine Qa rfl rfl rfl rfl (Qi fa132_2 rfl rfl) ?_
      refine Qa rfl rfl rfl rfl (Qj ag129 rfl rfl) ?_
      obtain ⟨x106, hx106, hm⟩ := Qv hm
      refine Qa rfl rfl rfl rfl (Xi el129 rfl rfl hx106 rfl) ?_
      refine Qa rfl rfl rfl rfl (Qj ag88 rfl rfl) ?_
      obtain ⟨r108, hr108, hm⟩ := Qv hm
      refine Q2 [(0, 0), (1, 1), (2, 2), (3, 3)] [] [3] (hrec_impl_running_run (running.mk (State.mk j0.1 j0.2.1) j0.2.2.1 j0.2.2.2.1 j0.2.2.2.2.1 j0.2.2.2.2.2) x106 r108 hr108) Try.call86 rfl rfl rfl rfl rfl ⟨rfl, rfl, rfl, rfl, trivial⟩ rfl rfl rfl rfl rfl rfl rfl rfl rfl rfl rfl ?_
      refine Qa rfl rfl rfl rfl (Qd rfl) ?_
      refine Qy 109 rfl rfl rfl (fun hq => ?_) (fun hq => ?_)
      ·replace hm := QO hq hm
       refine Qm rfl rfl ?_
       refine Qa rfl rfl rfl rfl (Qd rfl) ?_
       refine Qm rfl rfl ?_
       refine Qa rfl rfl rfl rfl (Qd rfl) ?_
       refine Qm rfl rfl ?_
       refine TL_trAt 111 (x' := .cp [.int .i64 o94.Stmt.Kind, .int .i64 o94.Stmt.Var, .int .i64 o94.Stmt.Event, .int .i64 o94.Stmt.Sum.Const, .sl 1 (List.map Qf o94.Stmt.Sum.Coeffs), .int .i64 o94.Stmt.Index.Const, .sl 1 (List.map Qf o94.Stmt.Index.Coeffs), .sl 2 (List.map Qq o94.Stmt.Facts), .int .i64 o94.at_, .sl 1 (List.map Qg o94.kids)]) rfl (Xh (QV ho94)) rfl ?_
       refine Qa rfl rfl rfl rfl (Qs rfl rfl) ?_
       refine Qm rfl rfl ?_
       refine Qa rfl rfl rfl rfl (Qi fa132_2 rfl rfl) ?_
       refine Qm rfl rfl ?_
       refine Qa rfl rfl rfl rfl (Qj ag129 rfl rfl) ?_
       refine Qm rfl rfl ?_
       obtain ⟨x115, hx115, hm⟩ := Qv hm
       refine Qa rfl rfl rfl rfl (Xi el129 rfl rfl hx115 rfl) ?_
       refine Qm rfl rfl ?_
       refine Qa rfl rfl rfl rfl (Qj ag88 rfl rfl) ?_
       refine Qm rfl rfl ?_
       obtain ⟨r117, hr117, hm⟩ := Qv hm
       refine Q2 [(0, 0), (1, 1), (2, 2), (3, 3)] [] [3] (hrec_impl_running_run r108.2 x115 r117 hr117) Try.call86 rfl rfl rfl rfl rfl ⟨rfl, rfl, rfl, rfl, trivial⟩ rfl rfl rfl rfl rfl rfl rfl rfl rfl rfl rfl ?_
       refine Qa rfl rfl rfl rfl (Qp rfl rfl) ?_
       refine Qa rfl rfl rfl rfl (Qb rfl) ?_
       refine Qe ?_
       refine Qo [4] [0, 1, 2, 3] rfl rfl rfl rfl (by rw [hF]; rfl) ?_
       refine QB ?_
       obtain rfl := Qw hm
       refine ⟨[_], [0, 1, 2, 3], ⟨rfl, trivial⟩, ?_, rfl, rfl, rfl, rfl⟩
       rfl
      ·replace hm := QM hq hm
       refine Qh rfl rfl rfl rfl rfl rfl rfl ?_
       refine Qh rfl rfl rfl rfl rfl rfl rfl ?_
       refine Qh rfl rfl rfl rfl rfl rfl rfl ?_
       refine Qh rfl rfl rfl rfl rfl rfl rfl ?_
       refine Qh rfl rfl rfl rfl rfl rfl rfl ?_
       refine Qh rfl rfl rfl rfl rfl rfl rfl ?_
       refine Qh rfl rfl rfl rfl rfl rfl rfl ?_
       refine Qh rfl rfl rfl rfl rfl rfl rfl ?_
       refine Qa rfl rfl rfl rfl (Qk rfl rfl) ?_
       refine Qa rfl rfl rfl rfl (Qb rfl) ?_
       refine Qe ?_
       refine Qo [4] [0, 1, 2, 3] rfl rfl rfl rfl (by rw [hF]; rfl) ?_
       refine QB ?_
       obtain rfl := Qw hm
       refine ⟨[_], [0, 1, 2, 3], ⟨rfl, trivial⟩, ?_, rfl, rfl, rfl, rfl⟩
       rfl
     ·replace hm := QM hq hm
      refine Qn ?_
      refine Qc ?_
      refine Qa rfl rfl rfl rfl (Xq rfl rfl) ?_
      refine Qa rfl rfl rfl rfl (Qb rfl) ?_
      refine Qe ?_
      refine QI rfl (fun hq => ?_) (fun hq => ?_)
      ·replace hm := QO hq hm
       refine Qc ?_
       refine Qa rfl rfl rfl rfl (Qd rfl) ?_
       refine Qa rfl rfl rfl rfl (Qd rfl) ?_
       refine TL_trAt 122 (x' := .cp [.int .i64 o94.Stmt.Kind, .int .i64 o94.Stmt.Var, .int .i64 o94.Stmt.Event, .int .i64 o94.Stmt.Sum.Const, .sl 1 (List.map Qf o94.Stmt.Sum.Coeffs), .int .i64 o94.Stmt.Index.Const, .sl 1 (List.map Qf o94.Stmt.Index.Coeffs), .sl 2 (List.map Qq o94.Stmt.Facts), .int .i64 o94.at_, .sl 1 (List.map Qg o94.kids)]) rfl (Xh (QV ho94)) rfl ?_
       refine Qa rfl rfl rfl rfl (Qs rfl rfl) ?_
       refine Qa rfl rfl rfl rfl (Qu (n := 8) fa132_0 rfl rfl rfl) ?_
       refine Qa rfl rfl rfl rfl (Qu (n := 1) fa77_1 rfl rfl rfl) ?_
       refine Qa rfl rfl rfl rfl (Qj ag2 rfl rfl) ?_
       refine Qa rfl rfl rfl rfl (Qd rfl) ?_
       obtain ⟨x128, hx128, hm⟩ := Qv hm
       refine Qa rfl rfl rfl rfl (op_indexO el29 rfl rfl rfl hx128) ?_
       refine TL_storeFT sz2 rfl rfl ((getI_spec hx128).2) (v' := j1.1) rfl rfl rfl rfl rfl rfl rfl rfl rfl ?_
       refine Qe ?_
       refine Qn ?_
       refine Qc ?_
       refine Qa rfl rfl rfl rfl (Qb rfl) ?_
       refine Qe ?_
       refine Qo [4] [0, 1, 2, 3] rfl rfl rfl rfl (by rw [hF]; rfl) ?_
       refine QB ?_
       obtain rfl := Qw hm
       refine ⟨[_], [0, 1, 2, 3], ⟨rfl, trivial⟩, ?_, rfl, rfl, rfl, rfl⟩
       rfl
      ·replace hm := QM hq hm
       refine Qn ?_
       refine Qc ?_
       refine Qa rfl rfl rfl rfl (Xq rfl rfl) ?_
       refine Qa rfl rfl rfl rfl (Qb rfl) ?_
       refine Qe ?_
       refine QI rfl (fun hq => ?_) (fun hq => ?_)
       ·replace hm := QO hq hm
        refine T_drawZ [15] mix (by kernel_rfl) rfl ?_
        obtain ⟨x143, hx143, hm⟩ := Qv hm
        obtain ⟨x145, hx145, hm⟩ := Qv hm
        refine Ql 0 (by kernel_rfl) rfl rfl rfl rfl rfl (Qd rfl) ?_
        refine Ql 1 (by kernel_rfl) rfl rfl rfl rfl rfl (Qd rfl) ?_
        refine TZ_trAt 132 (x' := .cp [.int .i64 o94.Stmt.Kind, .int .i64 o94.Stmt.Var, .int .i64 o94.Stmt.Event, .int .i64 o94.Stmt.Sum.Const, .sl 1 (List.map Qf o94.Stmt.Sum.Coeffs), .int .i64 o94.Stmt.Index.Const, .sl 1 (List.map Qf o94.Stmt.Index.Coeffs), .sl 2 (List.map Qq o94.Stmt.Facts), .int .i64 o94.at_, .sl 1 (List.map Qg o94.kids)]) rfl (Xh (QV ho94)) rfl ?_
        refine Ql 2 (by kernel_rfl) rfl rfl rfl rfl rfl (Qs rfl rfl) ?_
        refine Ql 3 (by kernel_rfl) rfl rfl rfl rfl rfl (Qu (n := 8) fa132_0 rfl rfl rfl) ?_
        refine Ql 4 (by kernel_rfl) rfl rfl rfl rfl rfl (Qu (n := 1) fa77_1 rfl rfl rfl) ?_
        refine Ql 5 (by kernel_rfl) rfl rfl rfl rfl rfl (Qj ag2 rfl rfl) ?_
        refine Ql 6 (by kernel_rfl) rfl rfl rfl rfl rfl (Qd rfl) ?_
        refine Ql 7 (by kernel_rfl) rfl rfl rfl rfl rfl (Qs rfl rfl) ?_
        refine Ql 8 (by kernel_rfl) rfl rfl rfl rfl rfl (Qi fa73_0 rfl rfl) ?_
        refine Ql 9 (by kernel_rfl) rfl rfl rfl rfl rfl (Qi fa31_1 rfl rfl) ?_
        refine Ql 10 (by kernel_rfl) rfl rfl rfl rfl rfl (Qj ag29 rfl rfl) ?_
        refine Ql 11 (by kernel_rfl) rfl rfl rfl rfl rfl (Qd rfl) ?_
        refine Ql 12 (by kernel_rfl) rfl rfl rfl rfl rfl (op_indexO el29 rfl rfl rfl hx143) ?_
        refine Ql 13 (by kernel_rfl) rfl rfl rfl rfl rfl (op_loadD1 ag2 rfl rfl ((getI_spec hx143).2) rfl rfl rfl rfl) ?_
        refine Ql 14 (by kernel_rfl) rfl rfl rfl rfl rfl (op_indexO el29 rfl rfl rfl hx145) ?_
        refine QF 15 (by kernel_rfl) rfl ?_
        refine TL_storeFT sz2 rfl rfl ((getI_spec hx145).2) (v' := x143) rfl rfl rfl rfl rfl rfl rfl rfl rfl ?_
        refine Qe ?_
        refine Q8 (by kernel_rfl) ?_
        refine Qn ?_
        refine Qc ?_
        refine Qa rfl rfl rfl rfl (Qb rfl) ?_
        refine Qe ?_
        refine Qo [4] [0, 1, 2, 3] rfl rfl rfl rfl (by rw [hF]; rfl) ?_
        refine QB ?_
        obtain rfl := Qw hm
        refine ⟨[_], [0, 1, 2, 3], ⟨rfl, trivial⟩, ?_, rfl, rfl, rfl, rfl⟩
        rfl
       ·replace hm := QM hq hm
        refine Qn ?_
        refine Qc ?_
        refine Qa rfl rfl rfl rfl (Xq rfl rfl) ?_
        refine Qa rfl rfl rfl rfl (Qb rfl) ?_
        refine Qe ?_
        refine QI rfl (fun hq => ?_) (fun hq => ?_)
        ·replace hm := QO hq hm
         refine Qc ?_
         refine Qa rfl rfl rfl rfl (Qd rfl) ?_
         refine Qa rfl rfl rfl rfl (Qs rfl rfl) ?_
         refine Qa rfl rfl rfl rfl (Qi fa73_0 rfl rfl) ?_
         refine Qa rfl rfl rfl rfl (Qi fa31_1 rfl rfl) ?_
         refine Qa rfl rfl rfl rfl (Qj ag29 rfl rfl) ?_
         refine Qa rfl rfl rfl rfl (Qd rfl) ?_
         refine Qa rfl rfl rfl rfl (Qd rfl) ?_
         obtain ⟨x155, hx155, hm⟩ := Qv hm
         refine Qa rfl rfl rfl rfl (op_indexO el29 rfl rfl rfl hx155) ?_
         refine TL_storeFT sz2 rfl rfl ((getI_spec hx155).2) (v' := j1.1) rfl rfl rfl rfl rfl rfl rfl rfl rfl ?_
         refine Qe ?_
         refine Qn ?_
         refine Qc ?_
         refine Qa rfl rfl rfl rfl (Qb rfl) ?_
         refine Qe ?_
         refine Qo [4] [0, 1, 2, 3] rfl rfl rfl rfl (by rw [hF]; rfl) ?_
         refine QB ?_
         obtain rfl := Qw hm
         refine ⟨[_], [0, 1, 2, 3], ⟨rfl, trivial⟩, ?_, rfl, rfl, rfl, rfl⟩
         rfl
        ·replace hm := QM hq hm
         refine Qn ?_
         refine Qc ?_
         refine Qa rfl rfl rfl rfl (Xq rfl rfl) ?_
         refine Qa rfl rfl rfl rfl (Qb rfl) ?_
         refine Qe ?_
         refine QI rfl (fun hq => ?_) (fun hq => ?_)
         ·replace hm := QO hq hm
          refine T_drawZ [10, 11, 14] mix (by kernel_rfl) rfl ?_
          obtain ⟨q169, hq169, hm⟩ := Qv hm
          refine Ql 0 (by kernel_rfl) rfl rfl rfl rfl rfl (Qd rfl) ?_
          refine Ql 1 (by kernel_rfl) rfl rfl rfl rfl rfl (Qd rfl) ?_
          refine Ql 2 (by kernel_rfl) rfl rfl rfl rfl rfl (Qs rfl rfl) ?_
          refine Ql 3 (by kernel_rfl) rfl rfl rfl rfl rfl (Qi fa73_1 rfl rfl) ?_
          refine Ql 5 (by kernel_rfl) rfl rfl rfl rfl rfl (Qd rfl) ?_
          refine TZ_trAt 163 (x' := .cp [.int .i64 o94.Stmt.Kind, .int .i64 o94.Stmt.Var, .int .i64 o94.Stmt.Event, .int .i64 o94.Stmt.Sum.Const, .sl 1 (List.map Qf o94.Stmt.Sum.Coeffs), .int .i64 o94.Stmt.Index.Const, .sl 1 (List.map Qf o94.Stmt.Index.Coeffs), .sl 2 (List.map Qq o94.Stmt.Facts), .int .i64 o94.at_, .sl 1 (List.map Qg o94.kids)]) rfl (Xh (QV ho94)) rfl ?_
          refine Ql 6 (by kernel_rfl) rfl rfl rfl rfl rfl (Qs rfl rfl) ?_
          refine Ql 7 (by kernel_rfl) rfl rfl rfl rfl rfl (Qu (n := 8) fa132_0 rfl rfl rfl) ?_
          refine Ql 8 (by kernel_rfl) rfl rfl rfl rfl rfl (Qu (n := 1) fa77_2 rfl rfl rfl) ?_
          refine XD 6 [true, true, true, true, true, true, true, true, true, false, false, false, false, false, false] ⟨[(0, .ptr 0 0 0), (1, Qg p1), (5, .ow 1), (6, .int .i64 j1.1), (7, .int .i64 j1.2), (94, .cp [.int .i64 o94.Stmt.Kind, .int .i64 o94.Stmt.Var, .int .i64 o94.Stmt.Event, .int .i64 o94.Stmt.Sum.Const, .sl 1 (List.map Qf o94.Stmt.Sum.Coeffs), .int .i64 o94.Stmt.Index.Const, .sl 1 (List.map Qf o94.Stmt.Index.Coeffs), .sl 2 (List.map Qq o94.Stmt.Facts), .int .i64 o94.at_, .sl 1 (List.map Qg o94.kids)]), (95, .cp [.int .i64 o94.Stmt.Kind, .int .i64 o94.Stmt.Var, .int .i64 o94.Stmt.Event, .int .i64 o94.Stmt.Sum.Const, .sl 1 (List.map Qf o94.Stmt.Sum.Coeffs), .int .i64 o94.Stmt.Index.Const, .sl 1 (List.map Qf o94.Stmt.Index.Coeffs), .sl 2 (List.map Qq o94.Stmt.Facts), .int .i64 o94.at_, .sl 1 (List.map Qg o94.kids)]), (96, .cp [.int .i64 o94.Stmt.Kind, .int .i64 o94.Stmt.Var, .int .i64 o94.Stmt.Event, .int .i64 o94.Stmt.Sum.Const, .sl 1 (List.map Qf o94.Stmt.Sum.Coeffs), .int .i64 o94.Stmt.Index.Const, .sl 1 (List.map Qf o94.Stmt.Index.Coeffs), .sl 2 (List.map Qq o94.Stmt.Facts)]), (97, .cp [.int .i64 o94.Stmt.Kind]), (98, .int .i64 o94.Stmt.Kind), (99, .bool (decide (o94.Stmt.Kind = (1 : Int)))), (100, .bool (decide (o94.Stmt.Kind = (1 : Int)))), (119, .bool (decide (o94.Stmt.Kind = (2 : Int)))), (120, .bool (decide (o94.Stmt.Kind = (2 : Int)))), (129, .bool (decide (o94.Stmt.Kind = (3 : Int)))), (130, .bool (decide (o94.Stmt.Kind = (3 : Int)))), (146, .bool (decide (o94.Stmt.Kind = (4 : Int)))), (147, .bool (decide (o94.Stmt.Kind = (4 : Int)))), (156, .bool (decide (o94.Stmt.Kind = (5 : Int)))), (157, .bool (decide (o94.Stmt.Kind = (5 : Int)))), (158, .ptr 0 0 0), (159, .ptr 0 0 0), (160, .ptr 0 0 0), (161, .ptr 0 0 2), (162, .ow 3), (163, .cp [.int .i64 o94.Stmt.Kind, .int .i64 o94.Stmt.Var, .int .i64 o94.Stmt.Event, .int .i64 o94.Stmt.Sum.Const, .sl 1 (List.map Qf o94.Stmt.Sum.Coeffs), .int .i64 o94.Stmt.Index.Const, .sl 1 (List.map Qf o94.Stmt.Index.Coeffs), .sl 2 (List.map Qq o94.Stmt.Facts), .int .i64 o94.at_, .sl 1 (List.map Qg o94.kids)]), (164, .cp [.int .i64 o94.Stmt.Kind, .int .i64 o94.Stmt.Var, .int .i64 o94.Stmt.Event, .int .i64 o94.Stmt.Sum.Const, .sl 1 (List.map Qf o94.Stmt.Sum.Coeffs), .int .i64 o94.Stmt.Index.Const, .sl 1 (List.map Qf o94.Stmt.Index.Coeffs), .sl 2 (List.map Qq o94.Stmt.Facts), .int .i64 o94.at_, .sl 1 (List.map Qg o94.kids)]), (165, .cp [.int .i64 o94.Stmt.Kind, .int .i64 o94.Stmt.Var, .int .i64 o94.Stmt.Event, .int .i64 o94.Stmt.Sum.Const, .sl 1 (List.map Qf o94.Stmt.Sum.Coeffs), .int .i64 o94.Stmt.Index.Const, .sl 1 (List.map Qf o94.Stmt.Index.Coeffs), .sl 2 (List.map Qq o94.Stmt.Facts)]), (166, .cp [.int .i64 o94.Stmt.Event])], [(0, .box [.ow 1, .ow 2, .ow 3, .int .i64 j0.2.2.2.1, .int .i64 j0.2.2.2.2.1, .int .i64 j0.2.2.2.2.2]), (1, .arr ⟨true, true⟩ 1 2 (List.map Qf j0.1)), (2, .arr ⟨true, true⟩ 1 2 (List.map Qf j0.2.1)), (3, .arr ⟨false, true⟩ 1 2 (List.map Qf j0.2.2.1))]⟩ ?_ (fun hS10_0 => ?_)
          ·refine QF 9 (by kernel_rfl) rfl ?_
           refine Qa rfl rfl rfl rfl (Qj ag2 rfl rfl) ?_
           refine Qe ?_
           refine QF 10 (by kernel_rfl) rfl ?_
           refine QD 891 (es := List.map Qf [o94.Stmt.Event]) el29 z2 rfl rfl rfl rfl rfl rfl rfl rfl rfl ?_
           refine Qe ?_
           refine QF 11 (by kernel_rfl) rfl ?_
           refine TL_deepen 891 (p' := false) (List.map Qf [o94.Stmt.Event]) (by rw [hF]; rfl) rfl (ElR.map (f := Qf) (g := Qf) (fun _ => ⟨⟨rfl, rfl⟩, trivial⟩) [o94.Stmt.Event]) rfl rfl rfl ?_
           refine TL_appendDT (f := Qf) (a := j0.2.2.1) (b := [o94.Stmt.Event]) el29 z2 rfl rfl rfl rfl rfl rfl rfl rfl (by rw [hF]; rfl) (Xa hq169) rfl rfl rfl rfl rfl ?_
           refine Qe ?_
           refine Ql 12 (by kernel_rfl) rfl rfl rfl rfl rfl (Qs rfl rfl) ?_
           refine Ql 13 (by kernel_rfl) rfl rfl rfl rfl rfl (Qi fa73_1 rfl rfl) ?_
           refine QF 14 (by kernel_rfl) rfl ?_
           refine Qr sz29 rfl rfl rfl rfl rfl rfl rfl rfl rfl ?_
           refine Qe ?_
           refine Q8 (by kernel_rfl) ?_
           refine Qn ?_
           refine Qc ?_
           refine Qa rfl rfl rfl rfl (Qb rfl) ?_
           refine Qe ?_
           refine Qo [4] [0, 1, 2, 3] rfl rfl rfl rfl (by rw [hF]; rfl) ?_
           refine QB ?_
           obtain rfl := Qw hm
           refine ⟨[_], [0, 1, 2, 3], ⟨rfl, trivial⟩, ?_, rfl, rfl, rfl, rfl⟩
           rfl
          refine XD 5 [true, true, true, true, true, true, true, true, true, true, false, false, false, false, false] ⟨[(0, .ptr 0 0 0), (1, Qg p1), (5, .ow 1), (6, .int .i64 j1.1), (7, .int .i64 j1.2), (94, .cp [.int .i64 o94.Stmt.Kind, .int .i64 o94.Stmt.Var, .int .i64 o94.Stmt.Event, .int .i64 o94.Stmt.Sum.Const, .sl 1 (List.map Qf o94.Stmt.Sum.Coeffs), .int .i64 o94.Stmt.Index.Const, .sl 1 (List.map Qf o94.Stmt.Index.Coeffs), .sl 2 (List.map Qq o94.Stmt.Facts), .int .i64 o94.at_, .sl 1 (List.map Qg o94.kids)]), (95, .cp [.int .i64 o94.Stmt.Kind, .int .i64 o94.Stmt.Var, .int .i64 o94.Stmt.Event, .int .i64 o94.Stmt.Sum.Const, .sl 1 (List.map Qf o94.Stmt.Sum.Coeffs), .int .i64 o94.Stmt.Index.Const, .sl 1 (List.map Qf o94.Stmt.Index.Coeffs), .sl 2 (List.map Qq o94.Stmt.Facts), .int .i64 o94.at_, .sl 1 (List.map Qg o94.kids)]), (96, .cp [.int .i64 o94.Stmt.Kind, .int .i64 o94.Stmt.Var, .int .i64 o94.Stmt.Event, .int .i64 o94.Stmt.Sum.Const, .sl 1 (List.map Qf o94.Stmt.Sum.Coeffs), .int .i64 o94.Stmt.Index.Const, .sl 1 (List.map Qf o94.Stmt.Index.Coeffs), .sl 2 (List.map Qq o94.Stmt.Facts)]), (97, .cp [.int .i64 o94.Stmt.Kind]), (98, .int .i64 o94.Stmt.Kind), (99, .bool (decide (o94.Stmt.Kind = (1 : Int)))), (100, .bool (decide (o94.Stmt.Kind = (1 : Int)))), (119, .bool (decide (o94.Stmt.Kind = (2 : Int)))), (120, .bool (decide (o94.Stmt.Kind = (2 : Int)))), (129, .bool (decide (o94.Stmt.Kind = (3 : Int)))), (130, .bool (decide (o94.Stmt.Kind = (3 : Int)))), (146, .bool (decide (o94.Stmt.Kind = (4 : Int)))), (147, .bool (decide (o94.Stmt.Kind = (4 : Int)))), (156, .bool (decide (o94.Stmt.Kind = (5 : Int)))), (157, .bool (decide (o94.Stmt.Kind = (5 : Int)))), (158, .ptr 0 0 0), (159, .ptr 0 0 0), (160, .ptr 0 0 0), (161, .ptr 0 0 2), (162, .ow 3), (163, .cp [.int .i64 o94.Stmt.Kind, .int .i64 o94.Stmt.Var, .int .i64 o94.Stmt.Event, .int .i64 o94.Stmt.Sum.Const, .sl 1 (List.map Qf o94.Stmt.Sum.Coeffs), .int .i64 o94.Stmt.Index.Const, .sl 1 (List.map Qf o94.Stmt.Index.Coeffs), .sl 2 (List.map Qq o94.Stmt.Facts), .int .i64 o94.at_, .sl 1 (List.map Qg o94.kids)]), (164, .cp [.int .i64 o94.Stmt.Kind, .int .i64 o94.Stmt.Var, .int .i64 o94.Stmt.Event, .int .i64 o94.Stmt.Sum.Const, .sl 1 (List.map Qf o94.Stmt.Sum.Coeffs), .int .i64 o94.Stmt.Index.Const, .sl 1 (List.map Qf o94.Stmt.Index.Coeffs), .sl 2 (List.map Qq o94.Stmt.Facts), .int .i64 o94.at_, .sl 1 (List.map Qg o94.kids)]), (165, .cp [.int .i64 o94.Stmt.Kind, .int .i64 o94.Stmt.Var, .int .i64 o94.Stmt.Event, .int .i64 o94.Stmt.Sum.Const, .sl 1 (List.map Qf o94.Stmt.Sum.Coeffs), .int .i64 o94.Stmt.Index.Const, .sl 1 (List.map Qf o94.Stmt.Index.Coeffs), .sl 2 (List.map Qq o94.Stmt.Facts)]), (166, .cp [.int .i64 o94.Stmt.Event]), (167, .int .i64 o94.Stmt.Event)], [(0, .box [.ow 1, .ow 2, .ow 3, .int .i64 j0.2.2.2.1, .int .i64 j0.2.2.2.2.1, .int .i64 j0.2.2.2.2.2]), (1, .arr ⟨true, true⟩ 1 2 (List.map Qf j0.1)), (2, .arr ⟨true, true⟩ 1 2 (List.map Qf j0.2.1)), (3, .arr ⟨false, true⟩ 1 2 (List.map Qf j0.2.2.1))]⟩ ?_ (fun hS10_1 => ?_)
          ·refine QF 10 (by kernel_rfl) rfl ?_
           refine QD 891 (es := List.map Qf [o94.Stmt.Event]) el29 z2 rfl rfl rfl rfl rfl rfl rfl rfl rfl ?_
           refine Qe ?_
           refine QF 11 (by kernel_rfl) rfl ?_
           refine TL_deepen 891 (p' := false) (List.map Qf [o94.Stmt.Event]) (by rw [hF]; rfl) rfl (ElR.map (f := Qf) (g := Qf) (fun _ => ⟨⟨rfl, rfl⟩, trivial⟩) [o94.Stmt.Event]) rfl rfl rfl ?_
           refine TL_appendDT (f := Qf) (a := j0.2.2.1) (b := [o94.Stmt.Event]) el29 z2 rfl rfl rfl rfl rfl rfl rfl rfl (by rw [hF]; rfl) (Xa hq169) rfl rfl rfl rfl rfl ?_
           refine Qe ?_
           refine Ql 12 (by kernel_rfl) rfl rfl rfl rfl rfl (Qs rfl rfl) ?_
           refine Ql 13 (by kernel_rfl) rfl rfl rfl rfl rfl (Qi fa73_1 rfl rfl) ?_
           refine QF 14 (by kernel_rfl) rfl ?_
           refine Qr sz29 rfl rfl rfl rfl rfl rfl rfl rfl rfl ?_
           refine Qe ?_
           refine Q8 (by kernel_rfl) ?_
           refine Qn ?_
           refine Qc ?_
           refine Qa rfl rfl rfl rfl (Qb rfl) ?_
           refine Qe ?_
           refine Qo [4] [0, 1, 2, 3] rfl rfl rfl rfl (by rw [hF]; rfl) ?_
           refine QB ?_
           obtain rfl := Qw hm
           refine ⟨[_], [0, 1, 2, 3], ⟨rfl, trivial⟩, ?_, rfl, rfl, rfl, rfl⟩
           rfl
          refine XD 5 [true, true, true, true, false, true, true, true, true, true, true, false, false, false, false] ⟨[(0, .ptr 0 0 0), (1, Qg p1), (5, .ow 1), (6, .int .i64 j1.1), (7, .int .i64 j1.2), (94, .cp [.int .i64 o94.Stmt.Kind, .int .i64 o94.Stmt.Var, .int .i64 o94.Stmt.Event, .int .i64 o94.Stmt.Sum.Const, .sl 1 (List.map Qf o94.Stmt.Sum.Coeffs), .int .i64 o94.Stmt.Index.Const, .sl 1 (List.map Qf o94.Stmt.Index.Coeffs), .sl 2 (List.map Qq o94.Stmt.Facts), .int .i64 o94.at_, .sl 1 (List.map Qg o94.kids)]), (95, .cp [.int .i64 o94.Stmt.Kind, .int .i64 o94.Stmt.Var, .int .i64 o94.Stmt.Event, .int .i64 o94.Stmt.Sum.Const, .sl 1 (List.map Qf o94.Stmt.Sum.Coeffs), .int .i64 o94.Stmt.Index.Const, .sl 1 (List.map Qf o94.Stmt.Index.Coeffs), .sl 2 (List.map Qq o94.Stmt.Facts), .int .i64 o94.at_, .sl 1 (List.map Qg o94.kids)]), (96, .cp [.int .i64 o94.Stmt.Kind, .int .i64 o94.Stmt.Var, .int .i64 o94.Stmt.Event, .int .i64 o94.Stmt.Sum.Const, .sl 1 (List.map Qf o94.Stmt.Sum.Coeffs), .int .i64 o94.Stmt.Index.Const, .sl 1 (List.map Qf o94.Stmt.Index.Coeffs), .sl 2 (List.map Qq o94.Stmt.Facts)]), (97, .cp [.int .i64 o94.Stmt.Kind]), (98, .int .i64 o94.Stmt.Kind), (99, .bool (decide (o94.Stmt.Kind = (1 : Int)))), (100, .bool (decide (o94.Stmt.Kind = (1 : Int)))), (119, .bool (decide (o94.Stmt.Kind = (2 : Int)))), (120, .bool (decide (o94.Stmt.Kind = (2 : Int)))), (129, .bool (decide (o94.Stmt.Kind = (3 : Int)))), (130, .bool (decide (o94.Stmt.Kind = (3 : Int)))), (146, .bool (decide (o94.Stmt.Kind = (4 : Int)))), (147, .bool (decide (o94.Stmt.Kind = (4 : Int)))), (156, .bool (decide (o94.Stmt.Kind = (5 : Int)))), (157, .bool (decide (o94.Stmt.Kind = (5 : Int)))), (158, .ptr 0 0 0), (159, .ptr 0 0 0), (160, .ptr 0 0 0), (161, .ptr 0 0 2), (163, .cp [.int .i64 o94.Stmt.Kind, .int .i64 o94.Stmt.Var, .int .i64 o94.Stmt.Event, .int .i64 o94.Stmt.Sum.Const, .sl 1 (List.map Qf o94.Stmt.Sum.Coeffs), .int .i64 o94.Stmt.Index.Const, .sl 1 (List.map Qf o94.Stmt.Index.Coeffs), .sl 2 (List.map Qq o94.Stmt.Facts), .int .i64 o94.at_, .sl 1 (List.map Qg o94.kids)]), (164, .cp [.int .i64 o94.Stmt.Kind, .int .i64 o94.Stmt.Var, .int .i64 o94.Stmt.Event, .int .i64 o94.Stmt.Sum.Const, .sl 1 (List.map Qf o94.Stmt.Sum.Coeffs), .int .i64 o94.Stmt.Index.Const, .sl 1 (List.map Qf o94.Stmt.Index.Coeffs), .sl 2 (List.map Qq o94.Stmt.Facts), .int .i64 o94.at_, .sl 1 (List.map Qg o94.kids)]), (165, .cp [.int .i64 o94.Stmt.Kind, .int .i64 o94.Stmt.Var, .int .i64 o94.Stmt.Event, .int .i64 o94.Stmt.Sum.Const, .sl 1 (List.map Qf o94.Stmt.Sum.Coeffs), .int .i64 o94.Stmt.Index.Const, .sl 1 (List.map Qf o94.Stmt.Index.Coeffs), .sl 2 (List.map Qq o94.Stmt.Facts)]), (166, .cp [.int .i64 o94.Stmt.Event]), (167, .int .i64 o94.Stmt.Event), (168, .ow 891)], [(0, .box [.ow 1, .ow 2, .ow 3, .int .i64 j0.2.2.2.1, .int .i64 j0.2.2.2.2.1, .int .i64 j0.2.2.2.2.2]), (1, .arr ⟨true, true⟩ 1 2 (List.map Qf j0.1)), (2, .arr ⟨true, true⟩ 1 2 (List.map Qf j0.2.1)), (3, .arr ⟨false, true⟩ 1 2 (List.map Qf j0.2.2.1)), (891, .arr ⟨false, false⟩ 1 2 (List.map Qf [o94.Stmt.Event]))]⟩ ?_ (fun hS10_2 => ?_)
          ·refine Ql 4 (by kernel_rfl) rfl rfl rfl rfl rfl (Qj ag29 rfl rfl) ?_
           refine QF 11 (by kernel_rfl) rfl ?_
           refine TL_deepen 891 (p' := false) (List.map Qf [o94.Stmt.Event]) (by rw [hF]; rfl) rfl (ElR.map (f := Qf) (g := Qf) (fun _ => ⟨⟨rfl, rfl⟩, trivial⟩) [o94.Stmt.Event]) rfl rfl rfl ?_
           refine TL_appendDT (f := Qf) (a := j0.2.2.1) (b := [o94.Stmt.Event]) el29 z2 rfl rfl rfl rfl rfl rfl rfl rfl (by rw [hF]; rfl) (Xa hq169) rfl rfl rfl rfl rfl ?_
           refine Qe ?_
           refine Ql 12 (by kernel_rfl) rfl rfl rfl rfl rfl (Qs rfl rfl) ?_
           refine Ql 13 (by kernel_rfl) rfl rfl rfl rfl rfl (Qi fa73_1 rfl rfl) ?_
           refine QF 14 (by kernel_rfl) rfl ?_
           refine Qr sz29 rfl rfl rfl rfl rfl rfl rfl rfl rfl ?_
           refine Qe ?_
           refine Q8 (by kernel_rfl) ?_
           refine Qn ?_
           refine Qc ?_
           refine Qa rfl rfl rfl rfl (Qb rfl) ?_
           refine Qe ?_
           refine Qo [4] [0, 1, 2, 3] rfl rfl rfl rfl (by rw [hF]; rfl) ?_
           refine QB ?_
           obtain rfl := Qw hm
           refine ⟨[_], [0, 1, 2, 3], ⟨rfl, trivial⟩, ?_, rfl, rfl, rfl, rfl⟩
           rfl
          refine XD 6 [true, true, true, true, false, true, true, true, true, true, false, false, false, false, false] ⟨[(0, .ptr 0 0 0), (1, Qg p1), (5, .ow 1), (6, .int .i64 j1.1), (7, .int .i64 j1.2), (94, .cp [.int .i64 o94.Stmt.Kind, .int .i64 o94.Stmt.Var, .int .i64 o94.Stmt.Event, .int .i64 o94.Stmt.Sum.Const, .sl 1 (List.map Qf o94.Stmt.Sum.Coeffs), .int .i64 o94.Stmt.Index.Const, .sl 1 (List.map Qf o94.Stmt.Index.Coeffs), .sl 2 (List.map Qq o94.Stmt.Facts), .int .i64 o94.at_, .sl 1 (List.map Qg o94.kids)]), (95, .cp [.int .i64 o94.Stmt.Kind, .int .i64 o94.Stmt.Var, .int .i64 o94.Stmt.Event, .int .i64 o94.Stmt.Sum.Const, .sl 1 (List.map Qf o94.Stmt.Sum.Coeffs), .int .i64 o94.Stmt.Index.Const, .sl 1 (List.map Qf o94.Stmt.Index.Coeffs), .sl 2 (List.map Qq o94.Stmt.Facts), .int .i64 o94.at_, .sl 1 (List.map Qg o94.kids)]), (96, .cp [.int .i64 o94.Stmt.Kind, .int .i64 o94.Stmt.Var, .int .i64 o94.Stmt.Event, .int .i64 o94.Stmt.Sum.Const, .sl 1 (List.map Qf o94.Stmt.Sum.Coeffs), .int .i64 o94.Stmt.Index.Const, .sl 1 (List.map Qf o94.Stmt.Index.Coeffs), .sl 2 (List.map Qq o94.Stmt.Facts)]), (97, .cp [.int .i64 o94.Stmt.Kind]), (98, .int .i64 o94.Stmt.Kind), (99, .bool (decide (o94.Stmt.Kind = (1 : Int)))), (100, .bool (decide (o94.Stmt.Kind = (1 : Int)))), (119, .bool (decide (o94.Stmt.Kind = (2 : Int)))), (120, .bool (decide (o94.Stmt.Kind = (2 : Int)))), (129, .bool (decide (o94.Stmt.Kind = (3 : Int)))), (130, .bool (decide (o94.Stmt.Kind = (3 : Int)))), (146, .bool (decide (o94.Stmt.Kind = (4 : Int)))), (147, .bool (decide (o94.Stmt.Kind = (4 : Int)))), (156, .bool (decide (o94.Stmt.Kind = (5 : Int)))), (157, .bool (decide (o94.Stmt.Kind = (5 : Int)))), (158, .ptr 0 0 0), (159, .ptr 0 0 0), (160, .ptr 0 0 0), (161, .ptr 0 0 2), (163, .cp [.int .i64 o94.Stmt.Kind, .int .i64 o94.Stmt.Var, .int .i64 o94.Stmt.Event, .int .i64 o94.Stmt.Sum.Const, .sl 1 (List.map Qf o94.Stmt.Sum.Coeffs), .int .i64 o94.Stmt.Index.Const, .sl 1 (List.map Qf o94.Stmt.Index.Coeffs), .sl 2 (List.map Qq o94.Stmt.Facts), .int .i64 o94.at_, .sl 1 (List.map Qg o94.kids)]), (164, .cp [.int .i64 o94.Stmt.Kind, .int .i64 o94.Stmt.Var, .int .i64 o94.Stmt.Event, .int .i64 o94.Stmt.Sum.Const, .sl 1 (List.map Qf o94.Stmt.Sum.Coeffs), .int .i64 o94.Stmt.Index.Const, .sl 1 (List.map Qf o94.Stmt.Index.Coeffs), .sl 2 (List.map Qq o94.Stmt.Facts), .int .i64 o94.at_, .sl 1 (List.map Qg o94.kids)]), (165, .cp [.int .i64 o94.Stmt.Kind, .int .i64 o94.Stmt.Var, .int .i64 o94.Stmt.Event, .int .i64 o94.Stmt.Sum.Const, .sl 1 (List.map Qf o94.Stmt.Sum.Coeffs), .int .i64 o94.Stmt.Index.Const, .sl 1 (List.map Qf o94.Stmt.Index.Coeffs), .sl 2 (List.map Qq o94.Stmt.Facts)]), (166, .cp [.int .i64 o94.Stmt.Event]), (167, .int .i64 o94.Stmt.Event)], [(0, .box [.ow 1, .ow 2, .ow 3, .int .i64 j0.2.2.2.1, .int .i64 j0.2.2.2.2.1, .int .i64 j0.2.2.2.2.2]), (1, .arr ⟨true, true⟩ 1 2 (List.map Qf j0.1)), (2, .arr ⟨true, true⟩ 1 2 (List.map Qf j0.2.1)), (3, .arr ⟨false, true⟩ 1 2 (List.map Qf j0.2.2.1))]⟩ ?_ (fun hS10_3 => ?_)
          ·refine TZ_each [4, 10] (by kernel_rfl) rfl ?_
           refine ⟨?_, ?_⟩
           ·refine ⟨_, rfl, ?_⟩
            refine Qa rfl rfl rfl rfl (Qj ag29 rfl rfl) ?_
            refine Qe ?_
            refine QU [0, 1, 5, 6, 7, 94, 95, 96, 97, 98, 99, 100, 119, 120, 129, 130, 146, 147, 156, 157, 158, 159, 160, 161, 162, 163, 164, 165, 166, 167] [0, 1, 2, 3] rfl rfl rfl rfl (by rw [hF]; rfl) ?_
            exact hS10_1
           ·refine ⟨_, rfl, ?_⟩
            refine QD 891 (es := List.map Qf [o94.Stmt.Event]) el29 z2 rfl rfl rfl rfl rfl rfl rfl rfl rfl ?_
            refine Qe ?_
            refine QU [0, 1, 5, 6, 7, 94, 95, 96, 97, 98, 99, 100, 119, 120, 129, 130, 146, 147, 156, 157, 158, 159, 160, 161, 163, 164, 165, 166, 167, 168] [0, 1, 2, 3, 891] rfl rfl rfl rfl (by rw [hF]; rfl) ?_
            exact hS10_2
          refine TZ_each [4, 9] (by kernel_rfl) rfl ?_
          refine ⟨?_, ?_⟩
          ·refine ⟨_, rfl, ?_⟩
           refine Qa rfl rfl rfl rfl (Qj ag29 rfl rfl) ?_
           refine Qe ?_
           refine QU [0, 1, 5, 6, 7, 94, 95, 96, 97, 98, 99, 100, 119, 120, 129, 130, 146, 147, 156, 157, 158, 159, 160, 161, 162, 163, 164, 165, 166] [0, 1, 2, 3] rfl rfl rfl rfl (by rw [hF]; rfl) ?_
           exact hS10_0
          ·refine ⟨_, rfl, ?_⟩
           refine Qa rfl rfl rfl rfl (Qj ag2 rfl rfl) ?_
           refine Qe ?_
           refine QU [0, 1, 5, 6, 7, 94, 95, 96, 97, 98, 99, 100, 119, 120, 129, 130, 146, 147, 156, 157, 158, 159, 160, 161, 163, 164, 165, 166, 167] [0, 1, 2, 3] rfl rfl rfl rfl (by rw [hF]; rfl) ?_
           exact hS10_3
         ·replace hm := QM hq hm
          refine Qn ?_
          refine Qc ?_
          refine Qa rfl rfl rfl rfl (Xq rfl rfl) ?_
          refine Qa rfl rfl rfl rfl (Qb rfl) ?_
          refine Qe ?_
          refine QI rfl (fun hq => ?_) (fun hq => ?_)
          ·replace hm := QO hq hm
           refine Qn ?_
           refine Qc ?_
           refine Qa rfl rfl rfl rfl (Qd rfl) ?_
           refine Qa rfl rfl rfl rfl (op_lss rfl rfl) ?_
           refine Qe ?_
           refine QI rfl (fun hq => ?_) (fun hq => ?_)
           ·replace hm := QO hq hm
            refine Qn ?_
            refine Qc ?_
            refine Qa rfl rfl rfl rfl (Qd rfl) ?_
            obtain ⟨r177, hr177, hm⟩ := Qv hm
            refine Q2 [(0, 0), (1, 1), (2, 2), (3, 3)] [] [3] (c_impl_running_stop (running.mk (State.mk j0.1 j0.2.1) j0.2.2.1 j0.2.2.2.1 j0.2.2.2.2.1 j0.2.2.2.2.2) (3 : Int) r177 hr177) Try.call119 rfl rfl rfl rfl rfl ⟨rfl, rfl, rfl, rfl, trivial⟩ rfl rfl rfl rfl rfl rfl rfl rfl rfl rfl rfl ?_
            refine Qa rfl rfl rfl rfl (Qb rfl) ?_
            refine Qe ?_
            refine Qo [4] [0, 1, 2, 3] rfl rfl rfl rfl (by rw [hF]; rfl) ?_
            refine QB ?_
            obtain rfl := Qw hm
            refine ⟨[_], [0, 1, 2, 3], ⟨rfl, trivial⟩, ?_, rfl, rfl, rfl, rfl⟩
            rfl
           ·replace hm := QM hq hm
            refine QL ?_
            refine Qn ?_
            refine Qc ?_
            refine Qa rfl rfl rfl rfl (Qb rfl) ?_
            refine Qe ?_
            refine Qo [4] [0, 1, 2, 3] rfl rfl rfl rfl (by rw [hF]; rfl) ?_
            refine QB ?_
            obtain rfl := Qw hm
            refine ⟨[_], [0, 1, 2, 3], ⟨rfl, trivial⟩, ?_, rfl, rfl, rfl, rfl⟩
            rfl
          ·replace hm := QM hq hm
           refine Qn ?_
           refine Qc ?_
           refine Qa rfl rfl rfl rfl (Xq rfl rfl) ?_
           refine Qa rfl rfl rfl rfl (Qb rfl) ?_
           refine Qe ?_
           refine QI rfl (fun hq => ?_) (fun hq => ?_)
           ·replace hm := QO hq hm
            refine Qn ?_
            refine Qn ?_
            refine Qc ?_
            refine Qa rfl rfl rfl rfl (Qd rfl) ?_
            refine Qa rfl rfl rfl rfl (op_geq rfl rfl) ?_
            refine Qe ?_
            refine QI rfl (fun hq => ?_) (fun hq => ?_)
            ·replace hm := QO hq hm
             refine Qn ?_
             refine Qc ?_
             refine Qa rfl rfl rfl rfl (Qd rfl) ?_
             refine Qa rfl rfl rfl rfl (Qd rfl) ?_
             refine TL_trAt 183 (x' := .cp [.int .i64 o94.Stmt.Kind, .int .i64 o94.Stmt.Var, .int .i64 o94.Stmt.Event, .int .i64 o94.Stmt.Sum.Const, .sl 1 (List.map Qf o94.Stmt.Sum.Coeffs), .int .i64 o94.Stmt.Index.Const, .sl 1 (List.map Qf o94.Stmt.Index.Coeffs), .sl 2 (List.map Qq o94.Stmt.Facts), .int .i64 o94.at_, .sl 1 (List.map Qg o94.kids)]) rfl (Xh (QV ho94)) rfl ?_
             refine Qa rfl rfl rfl rfl (Qs rfl rfl) ?_
             refine Qa rfl rfl rfl rfl (Qi fa132_2 rfl rfl) ?_
             refine Qa rfl rfl rfl rfl (Qj ag129 rfl rfl) ?_
             obtain ⟨x187, hx187, hm⟩ := Qv hm
             refine Qa rfl rfl rfl rfl (Xi el129 rfl rfl hx187 rfl) ?_
             refine Qa rfl rfl rfl rfl (Qj ag88 rfl rfl) ?_
             obtain ⟨r189, hr189, hm⟩ := Qv hm
             refine Q2 [(0, 0), (1, 1), (2, 2), (3, 3)] [] [3] (hrec_impl_running_run (running.mk (State.mk j0.1 j0.2.1) j0.2.2.1 j0.2.2.2.1 j0.2.2.2.2.1 j0.2.2.2.2.2) x187 r189 hr189) Try.call86 rfl rfl rfl rfl rfl ⟨rfl, rfl, rfl, rfl, trivial⟩ rfl rfl rfl rfl rfl rfl rfl rfl rfl rfl rfl ?_
             refine Qa rfl rfl rfl rfl (Qb rfl) ?_
             refine Qe ?_
             refine Qo [4] [0, 1, 2, 3] rfl rfl rfl rfl (by rw [hF]; rfl) ?_
             refine QB ?_
             obtain rfl := Qw hm
             refine ⟨[_], [0, 1, 2, 3], ⟨rfl, trivial⟩, ?_, rfl, rfl, rfl, rfl⟩
             rfl
            ·replace hm := QM hq hm
             refine QL ?_
             refine Qn ?_
             refine Qc ?_
             refine Qa rfl rfl rfl rfl (Qd rfl) ?_
             refine Qa rfl rfl rfl rfl (Qd rfl) ?_
             refine TL_trAt 191 (x' := .cp [.int .i64 o94.Stmt.Kind, .int .i64 o94.Stmt.Var, .int .i64 o94.Stmt.Event, .int .i64 o94.Stmt.Sum.Const, .sl 1 (List.map Qf o94.Stmt.Sum.Coeffs), .int .i64 o94.Stmt.Index.Const, .sl 1 (List.map Qf o94.Stmt.Index.Coeffs), .sl 2 (List.map Qq o94.Stmt.Facts), .int .i64 o94.at_, .sl 1 (List.map Qg o94.kids)]) rfl (Xh (QV ho94)) rfl ?_
             refine Qa rfl rfl rfl rfl (Qs rfl rfl) ?_
             refine Qa rfl rfl rfl rfl (Qi fa132_2 rfl rfl) ?_
             refine Qa rfl rfl rfl rfl (Qj ag129 rfl rfl) ?_
             obtain ⟨x195, hx195, hm⟩ := Qv hm
             refine Qa rfl rfl rfl rfl (Xi el129 rfl rfl hx195 rfl) ?_
             refine Qa rfl rfl rfl rfl (Qj ag88 rfl rfl) ?_
             obtain ⟨r197, hr197, hm⟩ := Qv hm
             refine Q2 [(0, 0), (1, 1), (2, 2), (3, 3)] [] [3] (hrec_impl_running_run (running.mk (State.mk j0.1 j0.2.1) j0.2.2.1 j0.2.2.2.1 j0.2.2.2.2.1 j0.2.2.2.2.2) x195 r197 hr197) Try.call86 rfl rfl rfl rfl rfl ⟨rfl, rfl, rfl, rfl, trivial⟩ rfl rfl rfl rfl rfl rfl rfl rfl rfl rfl rfl ?_
             refine Qa rfl rfl rfl rfl (Qb rfl) ?_
             refine Qe ?_
             refine Qo [4] [0, 1, 2, 3] rfl rfl rfl rfl (by rw [hF]; rfl) ?_
             refine QB ?_
             obtain rfl := Qw hm
             refine ⟨[_], [0, 1, 2, 3], ⟨rfl, trivial⟩, ?_, rfl, rfl, rfl, rfl⟩
             rfl
           ·replace hm := QM hq hm
            refine Qn ?_
            refine Qc ?_
            refine Qa rfl rfl rfl rfl (Xq rfl rfl) ?_
            refine Qa rfl rfl rfl rfl (Qb rfl) ?_
            refine Qe ?_
            refine QI rfl (fun hq => ?_) (fun hq => ?_)
            ·replace hm := QO hq hm
             refine Qn ?_
             refine Xd ?_
             refine Qo [0, 1, 5] [0, 1, 2, 3] rfl rfl rfl rfl (by rw [hF]; rfl) ?_
             refine T_loop ?_
             obtain ⟨u0, hl0, hm⟩ := Qv hm
             refine TR_iter2 (Xj rec_impl_running_run o94) (fun (s0 : (List Int) × (List Int) × (List Int) × Int × Int × Int) => ⟨[(0, .ptr 0 0 0), (1, Qg p1), (5, .ow 1)], [(0, .box [.ow 1, .ow 2, .ow 3, .int .i64 s0.2.2.2.1, .int .i64 s0.2.2.2.2.1, .int .i64 s0.2.2.2.2.2]), (1, .arr ⟨true, true⟩ 1 2 (List.map Qf s0.1)), (2, .arr ⟨true, true⟩ 1 2 (List.map Qf s0.2.1)), (3, .arr ⟨false, true⟩ 1 2 (List.map Qf s0.2.2.1))]⟩) (fun u0 => match u0 with | .inl u0 => .exit 1 | .inr u0 => .ret) (fun u0 => match u0 with | .inl u0 => ⟨[], [(0, .box [.ow 1, .ow 2, .ow 3, .int .i64 u0.2.2.2.1, .int .i64 u0.2.2.2.2.1, .int .i64 u0.2.2.2.2.2]), (1, .arr ⟨true, true⟩ 1 2 (List.map Qf u0.1)), (2, .arr ⟨true, true⟩ 1 2 (List.map Qf u0.2.1)), (3, .arr ⟨false, true⟩ 1 2 (List.map Qf u0.2.2.1))]⟩ | .inr u0 => ⟨[(4, .bool u0.1)], [(0, .box [.ow 1, .ow 2, .ow 3, .int .i64 u0.2.2.2.2.1, .int .i64 u0.2.2.2.2.2.1, .int .i64 u0.2.2.2.2.2.2]), (1, .arr ⟨true, true⟩ 1 2 (List.map Qf u0.2.1)), (2, .arr ⟨true, true⟩ 1 2 (List.map Qf u0.2.2.1)), (3, .arr ⟨false, true⟩ 1 2 (List.map Qf u0.2.2.2.1))]⟩) (fun u0 => m_impl_running_run_F_A0 u0 = some out) hl0 hm (fun u0 hm => ?_) (fun hx0 s0 c0 hm hc0 => ?_)
             ·rcases u0 with u0 | u0
              ·unfold m_impl_running_run_F_A0 at hm
               refine Qn ?_
               refine Qc ?_
               refine Qa rfl rfl rfl rfl (Qb rfl) ?_
               refine Qe ?_
               refine Qo [4] [0, 1, 2, 3] rfl rfl rfl rfl (by rw [hF]; rfl) ?_
               refine QB ?_
               obtain rfl := Qw hm
               refine ⟨[_], [0, 1, 2, 3], ⟨rfl, trivial⟩, ?_, rfl, rfl, rfl, rfl⟩
               rfl
              ·unfold m_impl_running_run_F_A0 at hm
               obtain rfl := Qw hm
               refine ⟨[_], [0, 1, 2, 3], ⟨rfl, trivial⟩, ?_, rfl, rfl, rfl, rfl⟩
               rfl
             ·unfold Xj at hm
              refine Qn ?_
              refine Qn ?_
              refine Qc ?_
              refine Qa rfl rfl rfl rfl (Qd rfl) ?_
              obtain ⟨r201, hr201, hm⟩ := Qv hm
              refine Q2 [(0, 0), (1, 1), (2, 2), (3, 3)] [] [3] (c_impl_running_step (running.mk (State.mk s0.1 s0.2.1) s0.2.2.1 s0.2.2.2.1 s0.2.2.2.2.1 s0.2.2.2.2.2) r201 hr201) Try.call117 rfl rfl rfl rfl rfl ⟨rfl, rfl, rfl, rfl, trivial⟩ rfl rfl rfl rfl rfl rfl rfl rfl rfl rfl rfl ?_
              refine Qe ?_
              refine QI rfl (fun hq => ?_) (fun hq => ?_)
              ·replace hm := QO hq hm
               refine QL ?_
               refine Xd ?_
               refine Qn ?_
               refine Qn ?_
               refine Qc ?_
               refine Qa rfl rfl rfl rfl (Qd rfl) ?_
               refine TL_trAt 202 (x' := .cp [.int .i64 o94.Stmt.Kind, .int .i64 o94.Stmt.Var, .int .i64 o94.Stmt.Event, .int .i64 o94.Stmt.Sum.Const, .sl 1 (List.map Qf o94.Stmt.Sum.Coeffs), .int .i64 o94.Stmt.Index.Const, .sl 1 (List.map Qf o94.Stmt.Index.Coeffs), .sl 2 (List.map Qq o94.Stmt.Facts), .int .i64 o94.at_, .sl 1 (List.map Qg o94.kids)]) rfl (Xh (QV ho94)) rfl ?_
               refine Qa rfl rfl rfl rfl (Qs rfl rfl) ?_
               refine Qa rfl rfl rfl rfl (Qu (n := 8) fa132_0 rfl rfl rfl) ?_
               refine Qa rfl rfl rfl rfl (Qu (n := 2) fa77_3 rfl rfl rfl) ?_
               refine Qa rfl rfl rfl rfl (Qt ag75 sz75 rfl rfl rfl) ?_
               refine Qa rfl rfl rfl rfl (Qd rfl) ?_
               obtain ⟨r208, hr208, hm⟩ := Qv hm
               refine QG (c_impl_Term_eval o94.Stmt.Sum r201.2.state.Vars r208 hr208) Try.call118 rfl rfl rfl rfl rfl ?_
               refine Qa rfl rfl rfl rfl (op_lss rfl rfl) ?_
               refine Qe ?_
               refine QI rfl (fun hq => ?_) (fun hq => ?_)
               ·replace hm := QO hq hm
                refine Qn ?_
                refine Qc ?_
                refine Qa rfl rfl rfl rfl (Qb rfl) ?_
                refine Qe ?_
                refine Qo [4] [0, 1, 2, 3] rfl rfl rfl rfl (by rw [hF]; rfl) ?_
                refine QB ?_
                obtain rfl := Qw hm
                have hn := Xv hc0
                exact hx0 (.inr (true, r201.2.state.Vars, r201.2.state.Cells, r201.2.events, r201.2.fuel, r201.2.steps, r201.2.out)) hn
               ·replace hm := QM hq hm
                refine QL ?_
                refine Qn ?_
                refine Qc ?_
                refine Qa rfl rfl rfl rfl (Qd rfl) ?_
                refine Qa rfl rfl rfl rfl (Qd rfl) ?_
                refine TL_trAt 211 (x' := .cp [.int .i64 o94.Stmt.Kind, .int .i64 o94.Stmt.Var, .int .i64 o94.Stmt.Event, .int .i64 o94.Stmt.Sum.Const, .sl 1 (List.map Qf o94.Stmt.Sum.Coeffs), .int .i64 o94.Stmt.Index.Const, .sl 1 (List.map Qf o94.Stmt.Index.Coeffs), .sl 2 (List.map Qq o94.Stmt.Facts), .int .i64 o94.at_, .sl 1 (List.map Qg o94.kids)]) rfl (Xh (QV ho94)) rfl ?_
                refine Qa rfl rfl rfl rfl (Qs rfl rfl) ?_
                refine Qa rfl rfl rfl rfl (Qi fa132_2 rfl rfl) ?_
                refine Qa rfl rfl rfl rfl (Qj ag129 rfl rfl) ?_
                obtain ⟨x215, hx215, hm⟩ := Qv hm
                refine Qa rfl rfl rfl rfl (Xi el129 rfl rfl hx215 rfl) ?_
                refine Qa rfl rfl rfl rfl (Qj ag88 rfl rfl) ?_
                obtain ⟨r217, hr217, hm⟩ := Qv hm
                refine Q2 [(0, 0), (1, 1), (2, 2), (3, 3)] [] [3] (hrec_impl_running_run r201.2 x215 r217 hr217) Try.call86 rfl rfl rfl rfl rfl ⟨rfl, rfl, rfl, rfl, trivial⟩ rfl rfl rfl rfl rfl rfl rfl rfl rfl rfl rfl ?_
                refine Qa rfl rfl rfl rfl (op_not rfl) ?_
                refine Qe ?_
                refine QI rfl (fun hq => ?_) (fun hq => ?_)
                ·replace hm := QO hq hm
                 refine Qn ?_
                 refine Qc ?_
                 refine Qa rfl rfl rfl rfl (Qb rfl) ?_
                 refine Qe ?_
                 refine Qo [4] [0, 1, 2, 3] rfl rfl rfl rfl (by rw [hF]; rfl) ?_
                 refine QB ?_
                 obtain rfl := Qw hm
                 have hn := Xv hc0
                 exact hx0 (.inr (false, r217.2.state.Vars, r217.2.state.Cells, r217.2.events, r217.2.fuel, r217.2.steps, r217.2.out)) hn
                ·replace hm := QM hq hm
                 refine QL ?_
                 refine Xw [0, 1, 5] [0, 1, 2, 3] rfl rfl rfl rfl (by rw [hF]; rfl) ?_
                 obtain rfl := Qw hm
                 have hn := Q7 hc0
                 exact hn _ rfl
              ·replace hm := QM hq hm
               refine Qo [] [0, 1, 2, 3] rfl rfl rfl rfl (by rw [hF]; rfl) ?_
               refine T_exit ?_
               obtain rfl := Qw hm
               have hn := Xv hc0
               exact hx0 (.inl (r201.2.state.Vars, r201.2.state.Cells, r201.2.events, r201.2.fuel, r201.2.steps, r201.2.out)) hn
            ·replace hm := QM hq hm
             refine QL ?_
             refine Qn ?_
             refine Qc ?_
             refine Qa rfl rfl rfl rfl (Qb rfl) ?_
             refine Qe ?_
             refine Qo [4] [0, 1, 2, 3] rfl rfl rfl rfl (by rw [hF]; rfl) ?_
             refine QB ?_
             obtain rfl := Qw hm
             refine ⟨[_], [0, 1, 2, 3], ⟨rfl, trivial⟩, ?_, rfl, rfl, rfl, rfl⟩
             rfl
    ·refine Qn ?_
     refine Qc ?_
     refine Qa rfl rfl rfl rfl (Qd rfl) ?_
     obtain ⟨o73, ho73, hm⟩ := Qv hm
     refine TL_trAt 73 (x' := .cp [.int .i64 o73.Stmt.Kind, .int .i64 o73.Stmt.Var, .int .i64 o73.Stmt.Event, .int .i64 o73.Stmt.Sum.Const, .sl 1 (List.map Qf o73.Stmt.Sum.Coeffs), .int .i64 o73.Stmt.Index.Const, .sl 1 (List.map Qf o73.Stmt.Index.Coeffs), .sl 2 (List.map Qq o73.Stmt.Facts), .int .i64 o73.at_, .sl 1 (List.map Qg o73.kids)]) rfl (Xh (QV ho73)) rfl ?_
     refine Qa rfl rfl rfl rfl (Qs rfl rfl) ?_
     refine Qa rfl rfl rfl rfl (Qu (n := 8) fa132_0 rfl rfl rfl) ?_
     refine Qa rfl rfl rfl rfl (Qu (n := 1) fa77_0 rfl rfl rfl) ?_
     refine Qa rfl rfl rfl rfl (Qj ag2 rfl rfl) ?_
     refine Qa rfl rfl rfl rfl (Xq rfl rfl) ?_
     refine Qa rfl rfl rfl rfl (Qd rfl) ?_
     refine Xb 7 (fun _ : Unit => ⟨[(0, .ptr 0 0 0), (1, Qg p1), (5, .ow 1), (6, .int .i64 j1.1), (7, .int .i64 j1.2), (86, .bool ((decide (o73.Stmt.Kind = (2 : Int))) || (decide (o73.Stmt.Kind = (4 : Int)))))], [(0, .box [.ow 1, .ow 2, .ow 3, .int .i64 j0.2.2.2.1, .int .i64 j0.2.2.2.2.1, .int .i64 j0.2.2.2.2.2]), (1, .arr ⟨true, true⟩ 1 2 (List.map Qf j0.1)), (2, .arr ⟨true, true⟩ 1 2 (List.map Qf j0.2.1)), (3, .arr ⟨false, true⟩ 1 2 (List.map Qf j0.2.2.1))]⟩) (fun _ => True) (fun _ _ => ?_) (fun hjj => ?_)
     ·refine Qa rfl rfl rfl rfl (Qd rfl) ?_
      refine Qy 87 rfl rfl rfl (fun hq => ?_) (fun hq => ?_)
      ·replace hm := QO hq hm
       refine Qm rfl rfl ?_
       refine Qa rfl rfl rfl rfl (Qd rfl) ?_
       refine Qm rfl rfl ?_
       obtain ⟨r89, hr89, hm⟩ := Qv hm
       refine QG (c_impl_isInt j1.1 r89 hr89) Try.call120 rfl rfl rfl rfl rfl ?_
       refine Qm rfl rfl ?_
       refine Qa rfl rfl rfl rfl (op_not rfl) ?_
       refine Qa rfl rfl rfl rfl (Qp rfl rfl) ?_
       refine Qe ?_
       refine QI rfl (fun hq => ?_) (fun hq => ?_)
       ·replace hm := QO hq hm
        refine Qn ?_
        refine Qc ?_
        refine Qa rfl rfl rfl rfl (Qd rfl) ?_
        obtain ⟨r93, hr93, hm⟩ := Qv hm
        refine Q2 [(0, 0), (1, 1), (2, 2), (3, 3)] [] [3] (c_impl_running_stop (running.mk (State.mk j0.1 j0.2.1) j0.2.2.1 j0.2.2.2.1 j0.2.2.2.2.1 j0.2.2.2.2.2) (4 : Int) r93 hr93) Try.call119 rfl rfl rfl rfl rfl ⟨rfl, rfl, rfl, rfl, trivial⟩ rfl rfl rfl rfl rfl rfl rfl rfl rfl rfl rfl ?_
        refine Qa rfl rfl rfl rfl (Qb rfl) ?_
        refine Qe ?_
        refine Qo [4] [0, 1, 2, 3] rfl rfl rfl rfl (by rw [hF]; rfl) ?_
        refine QB ?_
        obtain rfl := Qw hm
        refine ⟨[_], [0, 1, 2, 3], ⟨rfl, trivial⟩, ?_, rfl, rfl, rfl, rfl⟩
        rfl
       ·replace hm := QM hq hm
        refine QL ?_
        refine Qo [0, 1, 5, 6, 7] [0, 1, 2, 3] rfl rfl rfl rfl (by rw [hF]; rfl) ?_
        exact hj3 () hm
      ·replace hm := QM hq hm
       refine Qh rfl rfl rfl rfl rfl rfl rfl ?_
       refine Qh rfl rfl rfl rfl rfl rfl rfl ?_
       refine Qh rfl rfl rfl rfl rfl rfl rfl ?_
       refine Qa rfl rfl rfl rfl (Qk rfl rfl) ?_
       refine Qe ?_
       refine Xz rfl ?_
       refine QL ?_
       refine Qo [0, 1, 5, 6, 7] [0, 1, 2, 3] rfl rfl rfl rfl (by rw [hF]; rfl) ?_
       exact hj3 () hm
     ·refine Qy 79 rfl rfl rfl (fun hq => ?_) (fun hq => ?_)
      ·refine Qh rfl rfl rfl rfl rfl rfl rfl ?_
       refine Qh rfl rfl rfl rfl rfl rfl rfl ?_
       refine Qh rfl rfl rfl rfl rfl rfl rfl ?_
       refine Qh rfl rfl rfl rfl rfl rfl rfl ?_
       refine Qh rfl rfl rfl rfl rfl rfl rfl ?_
       refine Qh rfl rfl rfl rfl rfl rfl rfl ?_
       refine Qa rfl rfl rfl rfl (Qp rfl rfl) ?_
       refine Qx [0, 1, 5, 6, 7, 86] [0, 1, 2, 3] rfl rfl rfl rfl (by rw [hF]; rfl) ?_
       exact QA _ (by first | (rw [hq, Bool.true_or]; done) | (rw [hq]; rfl)) (hjj () trivial)
      ·refine Qm rfl rfl ?_
       refine Qa rfl rfl rfl rfl (Qd rfl) ?_
       refine Qm rfl rfl ?_
       refine TL_trAt 80 (x' := .cp [.int .i64 o73.Stmt.Kind, .int .i64 o73.Stmt.Var, .int .i64 o73.Stmt.Event, .int .i64 o73.Stmt.Sum.Const, .sl 1 (List.map Qf o73.Stmt.Sum.Coeffs), .int .i64 o73.Stmt.Index.Const, .sl 1 (List.map Qf o73.Stmt.Index.Coeffs), .sl 2 (List.map Qq o73.Stmt.Facts), .int .i64 o73.at_, .sl 1 (List.map Qg o73.kids)]) rfl (Xh (QV ho73)) rfl ?_
       refine Qa rfl rfl rfl rfl (Qs rfl rfl) ?_
       refine Qm rfl rfl ?_
       refine Qa rfl rfl rfl rfl (Qu (n := 8) fa132_0 rfl rfl rfl) ?_
       refine Qm rfl rfl ?_
       refine Qa rfl rfl rfl rfl (Qu (n := 1) fa77_0 rfl rfl rfl) ?_
       refine Qm rfl rfl ?_
       refine Qa rfl rfl rfl rfl (Qj ag2 rfl rfl) ?_
       refine Qm rfl rfl ?_
       refine Qa rfl rfl rfl rfl (Xq rfl rfl) ?_
       refine Qa rfl rfl rfl rfl (Qk rfl rfl) ?_
       refine Qx [0, 1, 5, 6, 7, 86] [0, 1, 2, 3] rfl rfl rfl rfl (by rw [hF]; rfl) ?_
       exact QA _ (by first | (rw [hq, Bool.false_or]; done) | (rw [hq]; rfl)) (hjj () trivial)
   ·refine Qn ?_
    refine Qc ?_
    refine Qa rfl rfl rfl rfl (Qd rfl) ?_
    obtain ⟨o52, ho52, hm⟩ := Qv hm
    refine TL_trAt 52 (x' := .cp [.int .i64 o52.Stmt.Kind, .int .i64 o52.Stmt.Var, .int .i64 o52.Stmt.Event, .int .i64 o52.Stmt.Sum.Const, .sl 1 (List.map Qf o52.Stmt.Sum.Coeffs), .int .i64 o52.Stmt.Index.Const, .sl 1 (List.map Qf o52.Stmt.Index.Coeffs), .sl 2 (List.map Qq o52.Stmt.Facts), .int .i64 o52.at_, .sl 1 (List.map Qg o52.kids)]) rfl (Xh (QV ho52)) rfl ?_
    refine Qa rfl rfl rfl rfl (Qs rfl rfl) ?_
    refine Qa rfl rfl rfl rfl (Qu (n := 8) fa132_0 rfl rfl rfl) ?_
    refine Qa rfl rfl rfl rfl (Qu (n := 1) fa77_0 rfl rfl rfl) ?_
    refine Qa rfl rfl rfl rfl (Qj ag2 rfl rfl) ?_
    refine Qa rfl rfl rfl rfl (Xq rfl rfl) ?_
    refine Qa rfl rfl rfl rfl (Qd rfl) ?_
    refine Xb 7 (fun _ : Unit => ⟨[(0, .ptr 0 0 0), (1, Qg p1), (5, .ow 1), (6, .int .i64 j1.1), (7, .int .i64 j1.2), (65, .bool ((decide (o52.Stmt.Kind = (3 : Int))) || (decide (o52.Stmt.Kind = (4 : Int)))))], [(0, .box [.ow 1, .ow 2, .ow 3, .int .i64 j0.2.2.2.1, .int .i64 j0.2.2.2.2.1, .int .i64 j0.2.2.2.2.2]), (1, .arr ⟨true, true⟩ 1 2 (List.map Qf j0.1)), (2, .arr ⟨true, true⟩ 1 2 (List.map Qf j0.2.1)), (3, .arr ⟨false, true⟩ 1 2 (List.map Qf j0.2.2.1))]⟩) (fun _ => True) (fun _ _ => ?_) (fun hjj => ?_)
    ·refine Qa rfl rfl rfl rfl (Qd rfl) ?_
     refine Qy 66 rfl rfl rfl (fun hq => ?_) (fun hq => ?_)
     ·replace hm := QO hq hm
      refine Qm rfl rfl ?_
      refine Qa rfl rfl rfl rfl (Qd rfl) ?_
      refine Qm rfl rfl ?_
      obtain ⟨r68, hr68, hm⟩ := Qv hm
      refine QG (c_impl_within j1.2 (0 : Int) (7 : Int) r68 hr68) Try.call84 rfl rfl rfl rfl rfl ?_
      refine Qm rfl rfl ?_
      refine Qa rfl rfl rfl rfl (op_not rfl) ?_
      refine Qa rfl rfl rfl rfl (Qp rfl rfl) ?_
      refine Qe ?_
      refine QI rfl (fun hq => ?_) (fun hq => ?_)
      ·replace hm := QO hq hm
       refine Qn ?_
       refine Qc ?_
       refine Qa rfl rfl rfl rfl (Qd rfl) ?_
       obtain ⟨r72, hr72, hm⟩ := Qv hm
       refine Q2 [(0, 0), (1, 1), (2, 2), (3, 3)] [] [3] (c_impl_running_stop (running.mk (State.mk j0.1 j0.2.1) j0.2.2.1 j0.2.2.2.1 j0.2.2.2.2.1 j0.2.2.2.2.2) (2 : Int) r72 hr72) Try.call119 rfl rfl rfl rfl rfl ⟨rfl, rfl, rfl, rfl, trivial⟩ rfl rfl rfl rfl rfl rfl rfl rfl rfl rfl rfl ?_
       refine Qa rfl rfl rfl rfl (Qb rfl) ?_
       refine Qe ?_
       refine Qo [4] [0, 1, 2, 3] rfl rfl rfl rfl (by rw [hF]; rfl) ?_
       refine QB ?_
       obtain rfl := Qw hm
       refine ⟨[_], [0, 1, 2, 3], ⟨rfl, trivial⟩, ?_, rfl, rfl, rfl, rfl⟩
       rfl
      ·replace hm := QM hq hm
       refine QL ?_
       refine Qo [0, 1, 5, 6, 7] [0, 1, 2, 3] rfl rfl rfl rfl (by rw [hF]; rfl) ?_
       exact hj2 () hm
     ·replace hm := QM hq hm
      refine Qh rfl rfl rfl rfl rfl rfl rfl ?_
      refine Qh rfl rfl rfl rfl rfl rfl rfl ?_
      refine Qh rfl rfl rfl rfl rfl rfl rfl ?_
      refine Qa rfl rfl rfl rfl (Qk rfl rfl) ?_
      refine Qe ?_
      refine Xz rfl ?_
      refine QL ?_
      refine Qo [0, 1, 5, 6, 7] [0, 1, 2, 3] rfl rfl rfl rfl (by rw [hF]; rfl) ?_
      exact hj2 () hm
    ·refine Qy 58 rfl rfl rfl (fun hq => ?_) (fun hq => ?_)
     ·refine Qh rfl rfl rfl rfl rfl rfl rfl ?_
      refine Qh rfl rfl rfl rfl rfl rfl rfl ?_
      refine Qh rfl rfl rfl rfl rfl rfl rfl ?_
      refine Qh rfl rfl rfl rfl rfl rfl rfl ?_
      refine Qh rfl rfl rfl rfl rfl rfl rfl ?_
      refine Qh rfl rfl rfl rfl rfl rfl rfl ?_
      refine Qa rfl rfl rfl rfl (Qp rfl rfl) ?_
      refine Qx [0, 1, 5, 6, 7, 65] [0, 1, 2, 3] rfl rfl rfl rfl (by rw [hF]; rfl) ?_
      exact QA _ (by first | (rw [hq, Bool.true_or]; done) | (rw [hq]; rfl)) (hjj () trivial)
     ·refine Qm rfl rfl ?_
      refine Qa rfl rfl rfl rfl (Qd rfl) ?_
      refine Qm rfl rfl ?_
      refine TL_trAt 59 (x' := .cp [.int .i64 o52.Stmt.Kind, .int .i64 o52.Stmt.Var, .int .i64 o52.Stmt.Event, .int .i64 o52.Stmt.Sum.Const, .sl 1 (List.map Qf o52.Stmt.Sum.Coeffs), .int .i64 o52.Stmt.Index.Const, .sl 1 (List.map Qf o52.Stmt.Index.Coeffs), .sl 2 (List.map Qq o52.Stmt.Facts), .int .i64 o52.at_, .sl 1 (List.map Qg o52.kids)]) rfl (Xh (QV ho52)) rfl ?_
      refine Qa rfl rfl rfl rfl (Qs rfl rfl) ?_
      refine Qm rfl rfl ?_
      refine Qa rfl rfl rfl rfl (Qu (n := 8) fa132_0 rfl rfl rfl) ?_
      refine Qm rfl rfl ?_
      refine Qa rfl rfl rfl rfl (Qu (n := 1) fa77_0 rfl rfl rfl) ?_
      refine Qm rfl rfl ?_
      refine Qa rfl rfl rfl rfl (Qj ag2 rfl rfl) ?_
      refine Qm rfl rfl ?_
      refine Qa rfl rfl rfl rfl (Xq rfl rfl) ?_
      refine Qa rfl rfl rfl rfl (Qk rfl rfl) ?_
      refine Qx [0, 1, 5, 6, 7, 65] [0, 1, 2, 3] rfl rfl rfl rfl (by rw [hF]; rfl) ?_
      exact QA _ (by first | (rw [hq, Bool.false_or]; done) | (rw [hq]; rfl)) (hjj () trivial)
  ·refine Qn ?_
   refine Qc ?_
   refine Qa rfl rfl rfl rfl (Qd rfl) ?_
   obtain ⟨o32, ho32, hm⟩ := Qv hm
   refine TL_trAt 32 (x' := .cp [.int .i64 o32.Stmt.Kind, .int .i64 o32.Stmt.Var, .int .i64 o32.Stmt.Event, .int .i64 o32.Stmt.Sum.Const, .sl 1 (List.map Qf o32.Stmt.Sum.Coeffs), .int .i64 o32.Stmt.Index.Const, .sl 1 (List.map Qf o32.Stmt.Index.Coeffs), .sl 2 (List.map Qq o32.Stmt.Facts), .int .i64 o32.at_, .sl 1 (List.map Qg o32.kids)]) rfl (Xh (QV ho32)) rfl ?_
   refine Qa rfl rfl rfl rfl (Qs rfl rfl) ?_
   refine Qa rfl rfl rfl rfl (Qu (n := 8) fa132_0 rfl rfl rfl) ?_
   refine Qa rfl rfl rfl rfl (Qu (n := 1) fa77_0 rfl rfl rfl) ?_
   refine Qa rfl rfl rfl rfl (Qj ag2 rfl rfl) ?_
   refine Qa rfl rfl rfl rfl (op_neq rfl rfl) ?_
   refine Qe ?_
   refine QI rfl (fun hq => ?_) (fun hq => ?_)
   ·replace hm := QO hq hm
    refine T_drawZ [] mix (by kernel_rfl) rfl ?_
    obtain ⟨r44, hr44, hm⟩ := Qv hm
    obtain ⟨r51, hr51, hm⟩ := Qv hm
    refine Ql 0 (by kernel_rfl) rfl rfl rfl rfl rfl (Qd rfl) ?_
    refine TZ_trAt 38 (x' := .cp [.int .i64 o32.Stmt.Kind, .int .i64 o32.Stmt.Var, .int .i64 o32.Stmt.Event, .int .i64 o32.Stmt.Sum.Const, .sl 1 (List.map Qf o32.Stmt.Sum.Coeffs), .int .i64 o32.Stmt.Index.Const, .sl 1 (List.map Qf o32.Stmt.Index.Coeffs), .sl 2 (List.map Qq o32.Stmt.Facts), .int .i64 o32.at_, .sl 1 (List.map Qg o32.kids)]) rfl (Xh (QV ho32)) rfl ?_
    refine Ql 1 (by kernel_rfl) rfl rfl rfl rfl rfl (Qs rfl rfl) ?_
    refine Ql 2 (by kernel_rfl) rfl rfl rfl rfl rfl (Qu (n := 8) fa132_0 rfl rfl rfl) ?_
    refine Ql 3 (by kernel_rfl) rfl rfl rfl rfl rfl (Qu (n := 2) fa77_3 rfl rfl rfl) ?_
    refine Ql 4 (by kernel_rfl) rfl rfl rfl rfl rfl (Qt ag75 sz75 rfl rfl rfl) ?_
    refine Ql 5 (by kernel_rfl) rfl rfl rfl rfl rfl (Qd rfl) ?_
    refine Ql 7 (by kernel_rfl) rfl rfl rfl rfl rfl (Qd rfl) ?_
    refine TZ_trAt 45 (x' := .cp [.int .i64 o32.Stmt.Kind, .int .i64 o32.Stmt.Var, .int .i64 o32.Stmt.Event, .int .i64 o32.Stmt.Sum.Const, .sl 1 (List.map Qf o32.Stmt.Sum.Coeffs), .int .i64 o32.Stmt.Index.Const, .sl 1 (List.map Qf o32.Stmt.Index.Coeffs), .sl 2 (List.map Qq o32.Stmt.Facts), .int .i64 o32.at_, .sl 1 (List.map Qg o32.kids)]) rfl (Xh (QV ho32)) rfl ?_
    refine Ql 8 (by kernel_rfl) rfl rfl rfl rfl rfl (Qs rfl rfl) ?_
    refine Ql 9 (by kernel_rfl) rfl rfl rfl rfl rfl (Qu (n := 8) fa132_0 rfl rfl rfl) ?_
    refine Ql 10 (by kernel_rfl) rfl rfl rfl rfl rfl (Qu (n := 2) fa77_4 rfl rfl rfl) ?_
    refine Ql 11 (by kernel_rfl) rfl rfl rfl rfl rfl (Qt ag75 sz75 rfl rfl rfl) ?_
    refine Ql 12 (by kernel_rfl) rfl rfl rfl rfl rfl (Qd rfl) ?_
    refine QF 6 (by kernel_rfl) rfl ?_
    refine QG (c_impl_Term_eval o32.Stmt.Sum j0.1 r44 hr44) Try.call118 rfl rfl rfl rfl rfl ?_
    refine Qe ?_
    refine QF 13 (by kernel_rfl) rfl ?_
    refine QG (c_impl_Term_eval o32.Stmt.Index j0.1 r51 hr51) Try.call118 rfl rfl rfl rfl rfl ?_
    refine Qe ?_
    refine Ql 14 (by kernel_rfl) rfl rfl rfl rfl rfl (Qb rfl) ?_
    refine Ql 15 (by kernel_rfl) rfl rfl rfl rfl rfl (Qb rfl) ?_
    refine Q8 (by kernel_rfl) ?_
    refine Qo [0, 1, 5, 6, 7] [0, 1, 2, 3] rfl rfl rfl rfl (by rw [hF]; rfl) ?_
    exact hj1 (r44, r51) hm
   ·replace hm := QM hq hm
    refine QL ?_
    refine Qo [0, 1, 5, 6, 7] [0, 1, 2, 3] rfl rfl rfl rfl (by rw [hF]; rfl) ?_
    exact hj1 ((0 : Int), (0 : Int)) hm
 ·refine Qn ?_
  refine Qc ?_
  refine Qa rfl rfl rfl rfl (Qd rfl) ?_
  obtain ⟨o13, ho13, hm⟩ := Qv hm
  refine TL_trAt 13 (x' := .cp [.int .i64 o13.Stmt.Kind, .int .i64 o13.Stmt.Var, .int .i64 o13.Stmt.Event, .int .i64 o13.Stmt.Sum.Const, .sl 1 (List.map Qf o13.Stmt.Sum.Coeffs), .int .i64 o13.Stmt.Index.Const, .sl 1 (List.map Qf o13.Stmt.Index.Coeffs), .sl 2 (List.map Qq o13.Stmt.Facts), .int .i64 o13.at_, .sl 1 (List.map Qg o13.kids)]) rfl (Xh (QV ho13)) rfl ?_
  refine Qa rfl rfl rfl rfl (Qs rfl rfl) ?_
  refine Qa rfl rfl rfl rfl (Qu (n := 8) fa132_0 rfl rfl rfl) ?_
  refine Qa rfl rfl rfl rfl (Qu (n := 1) fa77_0 rfl rfl rfl) ?_
  refine Qa rfl rfl rfl rfl (Qj ag2 rfl rfl) ?_
  refine Qa rfl rfl rfl rfl (op_neq rfl rfl) ?_
  refine Qa rfl rfl rfl rfl (Qd rfl) ?_
  refine Xb 7 (fun _ : Unit => ⟨[(0, .ptr 0 0 0), (1, Qg p1), (5, .ow 1), (26, .bool ((!decide (o13.Stmt.Kind = (1 : Int))) && (!decide (o13.Stmt.Kind = (8 : Int)))))], [(0, .box [.ow 1, .ow 2, .ow 3, .int .i64 p0.fuel, .int .i64 p0.steps, .int .i64 p0.out]), (1, .arr ⟨true, true⟩ 1 2 (List.map Qf p0.state.Vars)), (2, .arr ⟨true, true⟩ 1 2 (List.map Qf p0.state.Cells)), (3, .arr ⟨false, true⟩ 1 2 (List.map Qf p0.events))]⟩) (fun _ => True) (fun _ _ => ?_) (fun hjj => ?_)
  ·refine Qa rfl rfl rfl rfl (Qd rfl) ?_
   refine Qy 27 rfl rfl rfl (fun hq => ?_) (fun hq => ?_)
   ·replace hm := QO hq hm
    refine Qm rfl rfl ?_
    refine Qa rfl rfl rfl rfl (Qd rfl) ?_
    refine Qm rfl rfl ?_
    obtain ⟨r29, hr29, hm⟩ := Qv hm
    refine Q2 [(0, 0), (1, 1), (2, 2), (3, 3)] [] [3] (c_impl_running_step p0 r29 hr29) Try.call117 rfl rfl rfl rfl rfl ⟨rfl, rfl, rfl, rfl, trivial⟩ rfl rfl rfl rfl rfl rfl rfl rfl rfl rfl rfl ?_
    refine Qm rfl rfl ?_
    refine Qa rfl rfl rfl rfl (op_not rfl) ?_
    refine Qa rfl rfl rfl rfl (Qp rfl rfl) ?_
    refine Qe ?_
    refine QI rfl (fun hq => ?_) (fun hq => ?_)
    ·replace hm := QO hq hm
     refine Qn ?_
     refine Qc ?_
     refine Qa rfl rfl rfl rfl (Qb rfl) ?_
     refine Qe ?_
     refine Qo [4] [0, 1, 2, 3] rfl rfl rfl rfl (by rw [hF]; rfl) ?_
     refine QB ?_
     obtain rfl := Qw hm
     refine ⟨[_], [0, 1, 2, 3], ⟨rfl, trivial⟩, ?_, rfl, rfl, rfl, rfl⟩
     rfl
    ·replace hm := QM hq hm
     refine QL ?_
     refine Qo [0, 1, 5] [0, 1, 2, 3] rfl rfl rfl rfl (by rw [hF]; rfl) ?_
     exact hj0 (r29.2.state.Vars, r29.2.state.Cells, r29.2.events, r29.2.fuel, r29.2.steps, r29.2.out) hm
   ·replace hm := QM hq hm
    refine Qh rfl rfl rfl rfl rfl rfl rfl ?_
    refine Qh rfl rfl rfl rfl rfl rfl rfl ?_
    refine Qh rfl rfl rfl rfl rfl rfl rfl ?_
    refine Qa rfl rfl rfl rfl (Qk rfl rfl) ?_
    refine Qe ?_
    refine Xz rfl ?_
    refine QL ?_
    refine Qo [0, 1, 5] [0, 1, 2, 3] rfl rfl rfl rfl (by rw [hF]; rfl) ?_
    exact hj0 (p0.state.Vars, p0.state.Cells, p0.events, p0.fuel, p0.steps, p0.out) hm
  ·refine Qy 19 rfl rfl rfl (fun hq => ?_) (fun hq => ?_)
   ·refine Qm rfl rfl ?_
    refine Qa rfl rfl rfl rfl (Qd rfl) ?_
    refine Qm rfl rfl ?_
    refine TL_trAt 20 (x' := .cp [.int .i64 o13.Stmt.Kind, .int .i64 o13.Stmt.Var, .int .i64 o13.Stmt.Event, .int .i64 o13.Stmt.Sum.Const, .sl 1 (List.map Qf o13.Stmt.Sum.Coeffs), .int .i64 o13.Stmt.Index.Const, .sl 1 (List.map Qf o13.Stmt.Index.Coeffs), .sl 2 (List.map Qq o13.Stmt.Facts), .int .i64 o13.at_, .sl 1 (List.map Qg o13.kids)]) rfl (Xh (QV ho13)) rfl ?_
    refine Qa rfl rfl rfl rfl (Qs rfl rfl) ?_
    refine Qm rfl rfl ?_
    refine Qa rfl rfl rfl rfl (Qu (n := 8) fa132_0 rfl rfl rfl) ?_
    refine Qm rfl rfl ?_
    refine Qa rfl rfl rfl rfl (Qu (n := 1) fa77_0 rfl rfl rfl) ?_
    refine Qm rfl rfl ?_
    refine Qa rfl rfl rfl rfl (Qj ag2 rfl rfl) ?_
    refine Qm rfl rfl ?_
    refine Qa rfl rfl rfl rfl (op_neq rfl rfl) ?_
    refine Qa rfl rfl rfl rfl (Qp rfl rfl) ?_
    refine Qx [0, 1, 5, 26] [0, 1, 2, 3] rfl rfl rfl rfl (by rw [hF]; rfl) ?_
    exact QA _ (by first | (rw [hq, Bool.true_and]; done) | (rw [hq]; rfl)) (hjj () trivial)
   ·refine Qh rfl rfl rfl rfl rfl rfl rfl ?_
    refine Qh rfl rfl rfl rfl rfl rfl rfl ?_
    refine Qh rfl rfl rfl rfl rfl rfl rfl ?_
    refine Qh rfl rfl rfl rfl rfl rfl rfl ?_
    refine Qh rfl rfl rfl rfl rfl rfl rfl ?_
    refine Qh rfl rfl rfl rfl rfl rfl rfl ?_
    refine Qa rfl rfl rfl rfl (Qk rfl rfl) ?_
    refine Qx [0, 1, 5, 26] [0, 1, 2, 3] rfl rfl rfl rfl (by rw [hF]; rfl) ?_
    exact QA _ (by first | (rw [hq, Bool.false_and]; done) | (rw [hq]; rfl)) (hjj () trivial)
theorem c_impl_running_run : ∀ (n : Nat) (p0 : running) (p1 : Ptree) (out : Bool × running), Xx n p0 p1 = some out → ACall Try.prog 86 [.ptr 0 0 0, Qg p1] [(0, .box [.ow 1, .ow 2, .ow 3, .int .i64 p0.fuel, .int .i64 p0.steps, .int .i64 p0.out]), (1, .arr ⟨true, true⟩ 1 2 (List.map Qf p0.state.Vars)), (2, .arr ⟨true, true⟩ 1 2 (List.map Qf p0.state.Cells)), (3, .arr ⟨false, true⟩ 1 2 (List.map Qf p0.events))] (.bool out.1) [(0, .box [.ow 1, .ow 2, .ow 3, .int .i64 out.2.fuel, .int .i64 out.2.steps, .int .i64 out.2.out]), (1, .arr ⟨true, true⟩ 1 2 (List.map Qf out.2.state.Vars)), (2, .arr ⟨true, true⟩ 1 2 (List.map Qf out.2.state.Cells)), (3, .arr ⟨false, true⟩ 1 2 (List.map Qf out.2.events))] := by
 intro n
 induction n with
 | zero => intro p0 p1 out hm; cases hm
 | succ n ih => intro p0 p1 out hm; exact c_impl_running_run_F (Xx n) ih p0 p1 out hm
theorem c_impl_started (p0 : Program) (p1 : State) (p2 : Int) (out : running × Bool) (hm : m_impl_started p0 p1 p2 = some out) : ACall Try.prog 45 [.agg [.sl 2 (List.map Qq p0.Pre), .sl 8 (List.map QZ p0.Body), .sl 2 (List.map Qq p0.Post)], .agg [.sl 1 (List.map Qf p1.Vars), .sl 1 (List.map Qf p1.Cells)], .int .i64 p2] [] (bif out.2 then .tup [.ptr 1000 0 0, .bool true] else .tup [.nilp, .bool false]) (bif out.2 then [(1000, .box [.ow 1001, .ow 1002, .ow 1003, .int .i64 out.1.fuel, .int .i64 out.1.steps, .int .i64 out.1.out]), (1001, .arr ⟨false, true⟩ 1 2 (List.map Qf out.1.state.Vars)), (1002, .arr ⟨false, true⟩ 1 2 (List.map Qf out.1.state.Cells)), (1003, .arr ⟨false, true⟩ 1 2 (List.map Qf out.1.events))] else []) := by
 refine ACall.intro Try.func45 rfl Try.ntmps45 rfl (fun F hF => ?_)
 unfold m_impl_started at hm
 refine Qn ?_
 refine Qc ?_
 refine TL_box 11 rfl rfl rfl rfl rfl rfl rfl ?_
 refine TL_box 12 rfl rfl rfl rfl rfl rfl rfl ?_
 refine Qa rfl rfl rfl rfl (Qb rfl) ?_
 refine Qa rfl rfl rfl rfl (Qb rfl) ?_
 refine Qe ?_
 refine Qn ?_
 refine Qn ?_
 refine Qc ?_
 refine Qa rfl rfl rfl rfl (Qt ag27 sz27 rfl rfl rfl) ?_
 obtain ⟨r12, hr12, hm⟩ := Qv hm
 refine QG (c_impl_ValidProgram p0 r12 hr12) Try.call19 rfl rfl rfl rfl rfl ?_
 refine Qa rfl rfl rfl rfl (op_not rfl) ?_
 refine Qa rfl rfl rfl rfl (Qd rfl) ?_
 refine Qy 14 rfl rfl rfl (fun hq => ?_) (fun hq => ?_)
 ·replace hm := QO hq hm
  refine Qh rfl rfl rfl rfl rfl rfl rfl ?_
  refine Qh rfl rfl rfl rfl rfl rfl rfl ?_
  refine Qh rfl rfl rfl rfl rfl rfl rfl ?_
  refine Qa rfl rfl rfl rfl (Qp rfl rfl) ?_
  refine Qa rfl rfl rfl rfl (Qd rfl) ?_
  refine Qh rfl rfl rfl rfl rfl rfl rfl ?_
  refine Qh rfl rfl rfl rfl rfl rfl rfl ?_
  refine Qh rfl rfl rfl rfl rfl rfl rfl ?_
  refine Qa rfl rfl rfl rfl (Qp rfl rfl) ?_
  refine Qe ?_
  refine T_cond_true rfl ?_
  refine Qn ?_
  refine Qc ?_
  refine Qa rfl rfl rfl rfl (Qb rfl) ?_
  refine Qa rfl rfl rfl rfl (Qb rfl) ?_
  refine Qe ?_
  refine Qo [6, 7] [] rfl rfl rfl rfl (by rw [hF]; rfl) ?_
  refine QB ?_
  obtain rfl := Qw hm
  refine ⟨[_, _], [], ⟨rfl, rfl, trivial⟩, ?_, rfl, rfl, rfl, rfl⟩
  rfl
 ·replace hm := QM hq hm
  refine Qm rfl rfl ?_
  refine Qa rfl rfl rfl rfl (Qt ag31 sz31 rfl rfl rfl) ?_
  refine Qm rfl rfl ?_
  obtain ⟨r16, hr16, hm⟩ := Qv hm
  refine QG (c_impl_ValidState p1 r16 hr16) Try.call20 rfl rfl rfl rfl rfl ?_
  refine Qm rfl rfl ?_
  refine Qa rfl rfl rfl rfl (op_not rfl) ?_
  refine Qa rfl rfl rfl rfl (Qk rfl rfl) ?_
  refine Qa rfl rfl rfl rfl (Qd rfl) ?_
  refine Qy 19 rfl rfl rfl (fun hq => ?_) (fun hq => ?_)
  ·replace hm := QO hq hm
   refine Qh rfl rfl rfl rfl rfl rfl rfl ?_
   refine Qh rfl rfl rfl rfl rfl rfl rfl ?_
   refine Qh rfl rfl rfl rfl rfl rfl rfl ?_
   refine Qa rfl rfl rfl rfl (Qp rfl rfl) ?_
   refine Qe ?_
   refine T_cond_true rfl ?_
   refine Qn ?_
   refine Qc ?_
   refine Qa rfl rfl rfl rfl (Qb rfl) ?_
   refine Qa rfl rfl rfl rfl (Qb rfl) ?_
   refine Qe ?_
   refine Qo [6, 7] [] rfl rfl rfl rfl (by rw [hF]; rfl) ?_
   refine QB ?_
   obtain rfl := Qw hm
   refine ⟨[_, _], [], ⟨rfl, rfl, trivial⟩, ?_, rfl, rfl, rfl, rfl⟩
   rfl
  ·replace hm := QM hq hm
   refine Qm rfl rfl ?_
   refine Qa rfl rfl rfl rfl (Qd rfl) ?_
   refine Qm rfl rfl ?_
   obtain ⟨r21, hr21, hm⟩ := Qv hm
   refine QG (c_impl_within p2 (0 : Int) (2000 : Int) r21 hr21) Try.call84 rfl rfl rfl rfl rfl ?_
   refine Qm rfl rfl ?_
   refine Qa rfl rfl rfl rfl (op_not rfl) ?_
   refine Qa rfl rfl rfl rfl (Qk rfl rfl) ?_
   refine Qe ?_
   refine QI rfl (fun hq => ?_) (fun hq => ?_)
   ·replace hm := QO hq hm
    refine Qn ?_
    refine Qc ?_
    refine Qa rfl rfl rfl rfl (Qb rfl) ?_
    refine Qa rfl rfl rfl rfl (Qb rfl) ?_
    refine Qe ?_
    refine Qo [6, 7] [] rfl rfl rfl rfl (by rw [hF]; rfl) ?_
    refine QB ?_
    obtain rfl := Qw hm
    refine ⟨[_, _], [], ⟨rfl, rfl, trivial⟩, ?_, rfl, rfl, rfl, rfl⟩
    rfl
   ·replace hm := QM hq hm
    refine QL ?_
    refine Qn ?_
    refine Qc ?_
    refine Qa rfl rfl rfl rfl (Qi fa27_1 rfl rfl) ?_
    refine Qa rfl rfl rfl rfl (Qj ag25 rfl rfl) ?_
    obtain ⟨r27, hr27, hm⟩ := Qv hm
    refine TL_callT (c_impl_treeOf p0.Body r27 hr27) Try.call55 rfl rfl rfl rfl rfl ?_
    refine Qa rfl rfl rfl rfl (Qd rfl) ?_
    refine Qa rfl rfl rfl rfl (QH rfl rfl) ?_
    refine Qa rfl rfl rfl rfl (QH rfl rfl) ?_
    refine Qa rfl rfl rfl rfl (Qb rfl) ?_
    refine Qa rfl rfl rfl rfl (Qb rfl) ?_
    refine Qe ?_
    refine Qn ?_
    refine Qc ?_
    refine Qa rfl rfl rfl rfl (Qt ag31 sz31 rfl rfl rfl) ?_
    obtain ⟨r31, hr31, hm⟩ := Qv hm
    refine TL_callO [(1000, 13), (1001, 14)] (c_impl_State_own p1 r31 hr31) Try.call85 rfl rfl rfl rfl rfl rfl rfl rfl rfl rfl rfl rfl rfl ?_
    refine Qa rfl rfl rfl rfl (Qd rfl) ?_
    refine Qa rfl rfl rfl rfl (Xn pl73 z73 rfl rfl rfl rfl rfl) ?_
    refine TL_box 15 rfl rfl rfl rfl rfl rfl rfl ?_
    refine Qa rfl rfl rfl rfl (Qb rfl) ?_
    refine Qe ?_
    refine Qn ?_
    refine Qc ?_
    refine Qa rfl rfl rfl rfl (Qd rfl) ?_
    refine Qa rfl rfl rfl rfl (Qd rfl) ?_
    refine TL_ownNilBox 15 2 16 ⟨false, true⟩ 2 rfl rfl rfl (sz := 1) rfl rfl rfl rfl ?_
    refine TL_pin 13 (k' := ⟨true, true⟩) (by rw [hF]; rfl) rfl rfl rfl ?_
    refine TL_pin 14 (k' := ⟨true, true⟩) (by rw [hF]; rfl) rfl rfl rfl ?_
    obtain ⟨r37, hr37, hm⟩ := Qv hm
    refine Q2 [(0, 15), (1, 13), (2, 14), (3, 16)] [] [16] (c_impl_running_run 1000 (running.mk r31 ([] : List Int) p2 (0 : Int) (0 : Int)) r27.1 r37 hr37) Try.call86 rfl rfl rfl rfl rfl ⟨rfl, rfl, rfl, rfl, trivial⟩ rfl rfl rfl rfl rfl rfl rfl rfl rfl rfl rfl ?_
    refine Qe ?_
    refine Qn ?_
    refine Qc ?_
    refine Qa rfl rfl rfl rfl (Qd rfl) ?_
    refine Qa rfl rfl rfl rfl (Qb rfl) ?_
    refine Qa rfl rfl rfl rfl (Qb rfl) ?_
    refine Qe ?_
    refine Qo [6, 7] [13, 14, 15, 16] rfl rfl rfl rfl (by rw [hF]; rfl) ?_
    refine T_pin 13 (k' := ⟨false, true⟩) (by rw [hF]; rfl) rfl rfl rfl ?_
    refine T_pin 14 (k' := ⟨false, true⟩) (by rw [hF]; rfl) rfl rfl rfl ?_
    refine T_ren [(13, 1001), (14, 1002), (15, 1000), (16, 1003)] rfl rfl rfl (by rw [hF]; rfl) ?_
    refine Qo [6, 7] [1000, 1001, 1002, 1003] rfl rfl rfl rfl (by rw [hF]; rfl) ?_
    refine QB ?_
    obtain rfl := Qw hm
    refine ⟨[_, _], [1000, 1001, 1002, 1003], ⟨rfl, rfl, trivial⟩, ?_, rfl, rfl, rfl, rfl⟩
    rfl
theorem c_impl_RunProgram (p0 : Program) (p1 : State) (p2 : Int) (out : State × (List Int) × Int × Bool) (hm : m_impl_RunProgram p0 p1 p2 = some out) : ACall Try.prog 13 [.agg [.sl 2 (List.map Qq p0.Pre), .sl 8 (List.map QZ p0.Body), .sl 2 (List.map Qq p0.Post)], .agg [.sl 1 (List.map Qf p1.Vars), .sl 1 (List.map Qf p1.Cells)], .int .i64 p2] [] (.tup [.agg [.ow 1000, .ow 1001], .ow 1002, .int .i64 out.2.2.1, .bool out.2.2.2]) [(1000, .arr ⟨false, true⟩ 1 2 (List.map Qf out.1.Vars)), (1001, .arr ⟨false, true⟩ 1 2 (List.map Qf out.1.Cells)), (1002, .arr ⟨false, true⟩ 1 2 (List.map Qf out.2.1))] := by
 refine ACall.intro Try.func13 rfl Try.ntmps13 rfl (fun F hF => ?_)
 unfold m_impl_RunProgram at hm
 refine Qn ?_
 refine Qc ?_
 refine TL_box 11 rfl rfl rfl rfl rfl rfl rfl ?_
 refine TL_box 12 rfl rfl rfl rfl rfl rfl rfl ?_
 refine Xk 13 z31 rfl rfl rfl rfl rfl rfl rfl ?_
 refine Qa rfl rfl rfl rfl (Qb rfl) ?_
 refine Qa rfl rfl rfl rfl (Qb rfl) ?_
 refine Qa rfl rfl rfl rfl (Qb rfl) ?_
 refine Qe ?_
 refine Qn ?_
 refine Qc ?_
 refine Qa rfl rfl rfl rfl (Qt ag27 sz27 rfl rfl rfl) ?_
 refine Qa rfl rfl rfl rfl (Qt ag31 sz31 rfl rfl rfl) ?_
 refine Qa rfl rfl rfl rfl (Qd rfl) ?_
 obtain ⟨r16, hr16, hm⟩ := Qv hm
 rcases Bool.eq_false_or_eq_true r16.2 with hq | hq
 ·replace hm := QO hq hm
  refine TLE_call [] [(1000, 14), (1001, 15), (1002, 16), (1003, 17)] [] (by have hc := c_impl_started p0 p1 p2 r16 hr16; rw [hq] at hc; exact hc) (fun _ => rfl) Try.call45 rfl rfl rfl rfl rfl trivial rfl rfl rfl rfl rfl rfl rfl rfl rfl rfl rfl ?_
  refine Qa rfl rfl rfl rfl (Qd rfl) ?_
  refine Qa rfl rfl rfl rfl (QH rfl rfl) ?_
  refine Qa rfl rfl rfl rfl (QH rfl rfl) ?_
  refine Qa rfl rfl rfl rfl (Qb rfl) ?_
  refine Qa rfl rfl rfl rfl (Qb rfl) ?_
  refine Qe ?_
  refine Qn ?_
  refine Qn ?_
  refine Qc ?_
  refine Qa rfl rfl rfl rfl (Qd rfl) ?_
  refine Qa rfl rfl rfl rfl (op_not rfl) ?_
  refine Qe ?_
  refine Xz rfl ?_
  refine QL ?_
  refine Qn ?_
  refine T_drawZ [12] mix (by kernel_rfl) rfl ?_
  refine Ql 0 (by kernel_rfl) rfl rfl rfl rfl rfl (Qd rfl) ?_
  refine Ql 1 (by kernel_rfl) rfl rfl rfl rfl rfl (Qs rfl rfl) ?_
  refine Ql 2 (by kernel_rfl) rfl rfl rfl rfl rfl (Qi fa73_0 rfl rfl) ?_
  refine Ql 3 (by kernel_rfl) rfl rfl rfl rfl rfl (Qt ag31 sz31 rfl rfl rfl) ?_
  refine Ql 4 (by kernel_rfl) rfl rfl rfl rfl rfl (Qd rfl) ?_
  refine Ql 5 (by kernel_rfl) rfl rfl rfl rfl rfl (Qs rfl rfl) ?_
  refine Ql 6 (by kernel_rfl) rfl rfl rfl rfl rfl (Qi fa73_1 rfl rfl) ?_
  refine Ql 8 (by kernel_rfl) rfl rfl rfl rfl rfl (Qd rfl) ?_
  refine Ql 9 (by kernel_rfl) rfl rfl rfl rfl rfl (Qs rfl rfl) ?_
  refine Ql 10 (by kernel_rfl) rfl rfl rfl rfl rfl (Qi fa73_4 rfl rfl) ?_
  refine XD 4 [true, true, true, true, true, true, true, true, true, true, true, true, false, false, false, false] ⟨[(0, .agg [.sl 2 (List.map Qq p0.Pre), .sl 8 (List.map QZ p0.Body), .sl 2 (List.map Qq p0.Post)]), (1, .agg [.sl 1 (List.map Qf p1.Vars), .sl 1 (List.map Qf p1.Cells)]), (2, .int .i64 p2), (3, .ptr 11 0 0), (4, .ptr 12 0 0), (6, .ptr 13 0 0), (7, .snil), (8, .int .i64 (0 : Int)), (9, .bool false), (10, .ptr 14 0 0), (11, .bool true), (12, .tup [.ptr 14 0 0, .bool true]), (13, .agg [.sl 2 (List.map Qq p0.Pre), .sl 8 (List.map QZ p0.Body), .sl 2 (List.map Qq p0.Post)]), (14, .agg [.sl 1 (List.map Qf p1.Vars), .sl 1 (List.map Qf p1.Cells)]), (15, .int .i64 p2), (16, .tup [.ptr 14 0 0, .bool true]), (17, .ptr 14 0 0), (18, .bool true), (19, .bool true), (20, .bool false), (22, .ptr 14 0 0), (23, .ptr 14 0 0), (24, .ptr 14 0 0), (25, .agg [.ow 15, .ow 16]), (26, .ptr 14 0 0), (27, .ptr 14 0 0), (28, .ptr 14 0 2), (29, .ow 17), (30, .ptr 14 0 0), (31, .ptr 14 0 0), (32, .ptr 14 0 5), (33, .int .i64 r16.1.out)], [(11, .box [.sl 2 (List.map Qq p0.Pre), .sl 8 (List.map QZ p0.Body), .sl 2 (List.map Qq p0.Post)]), (12, .box [.sl 1 (List.map Qf p1.Vars), .sl 1 (List.map Qf p1.Cells)]), (13, .box [.snil, .snil]), (14, .box [.ow 15, .ow 16, .ow 17, .int .i64 r16.1.fuel, .int .i64 r16.1.steps, .int .i64 r16.1.out]), (15, .arr ⟨false, true⟩ 1 2 (List.map Qf r16.1.state.Vars)), (16, .arr ⟨false, true⟩ 1 2 (List.map Qf r16.1.state.Cells)), (17, .arr ⟨false, true⟩ 1 2 (List.map Qf r16.1.events))]⟩ ?_ (fun hS67_0 => ?_)
  ·refine QF 12 (by kernel_rfl) rfl ?_
   refine Qr sz31 rfl rfl rfl rfl rfl rfl rfl rfl rfl ?_
   refine Qe ?_
   refine Ql 13 (by kernel_rfl) rfl rfl rfl rfl rfl (Qb rfl) ?_
   refine Ql 14 (by kernel_rfl) rfl rfl rfl rfl rfl (Qb rfl) ?_
   refine Ql 15 (by kernel_rfl) rfl rfl rfl rfl rfl (Qb rfl) ?_
   refine Q8 (by kernel_rfl) ?_
   refine Qo [6, 7, 8, 9] [13, 15, 16, 17] rfl rfl rfl rfl (by rw [hF]; rfl) ?_
   refine T_ren [(13, 13), (15, 1000), (16, 1001), (17, 1002)] rfl rfl rfl (by rw [hF]; rfl) ?_
   refine QB ?_
   obtain rfl := Qw hm
   refine ⟨[_, _, _, _], [1000, 1001, 1002], ⟨⟨_, _, rfl, rfl, .inr ⟨ag31, _, _, sz31, rfl, rfl⟩⟩, rfl, rfl, rfl, trivial⟩, ?_, rfl, rfl, rfl, rfl⟩
   rfl
  refine XD 4 [true, true, true, true, true, true, true, true, true, true, true, false, true, false, false, false] ⟨[(0, .agg [.sl 2 (List.map Qq p0.Pre), .sl 8 (List.map QZ p0.Body), .sl 2 (List.map Qq p0.Post)]), (1, .agg [.sl 1 (List.map Qf p1.Vars), .sl 1 (List.map Qf p1.Cells)]), (2, .int .i64 p2), (3, .ptr 11 0 0), (4, .ptr 12 0 0), (6, .ptr 13 0 0), (7, .snil), (8, .int .i64 (0 : Int)), (9, .bool false), (10, .ptr 14 0 0), (11, .bool true), (12, .tup [.ptr 14 0 0, .bool true]), (13, .agg [.sl 2 (List.map Qq p0.Pre), .sl 8 (List.map QZ p0.Body), .sl 2 (List.map Qq p0.Post)]), (14, .agg [.sl 1 (List.map Qf p1.Vars), .sl 1 (List.map Qf p1.Cells)]), (15, .int .i64 p2), (16, .tup [.ptr 14 0 0, .bool true]), (17, .ptr 14 0 0), (18, .bool true), (19, .bool true), (20, .bool false), (22, .ptr 14 0 0), (23, .ptr 14 0 0), (24, .ptr 14 0 0), (25, .agg [.ow 15, .ow 16]), (26, .ptr 14 0 0), (27, .ptr 14 0 0), (28, .ptr 14 0 2), (29, .ow 17), (30, .ptr 14 0 0), (31, .ptr 14 0 0), (32, .ptr 14 0 5)], [(11, .box [.sl 2 (List.map Qq p0.Pre), .sl 8 (List.map QZ p0.Body), .sl 2 (List.map Qq p0.Post)]), (12, .box [.sl 1 (List.map Qf p1.Vars), .sl 1 (List.map Qf p1.Cells)]), (13, .box [.ow 15, .ow 16]), (14, .box [.ow 15, .ow 16, .ow 17, .int .i64 r16.1.fuel, .int .i64 r16.1.steps, .int .i64 r16.1.out]), (15, .arr ⟨false, true⟩ 1 2 (List.map Qf r16.1.state.Vars)), (16, .arr ⟨false, true⟩ 1 2 (List.map Qf r16.1.state.Cells)), (17, .arr ⟨false, true⟩ 1 2 (List.map Qf r16.1.events))]⟩ ?_ (fun hS67_1 => ?_)
  ·refine Ql 11 (by kernel_rfl) rfl rfl rfl rfl rfl (Qj ag2 rfl rfl) ?_
   refine Ql 13 (by kernel_rfl) rfl rfl rfl rfl rfl (Qb rfl) ?_
   refine Ql 14 (by kernel_rfl) rfl rfl rfl rfl rfl (Qb rfl) ?_
   refine Ql 15 (by kernel_rfl) rfl rfl rfl rfl rfl (Qb rfl) ?_
   refine Q8 (by kernel_rfl) ?_
   refine Qo [6, 7, 8, 9] [13, 15, 16, 17] rfl rfl rfl rfl (by rw [hF]; rfl) ?_
   refine T_ren [(13, 13), (15, 1000), (16, 1001), (17, 1002)] rfl rfl rfl (by rw [hF]; rfl) ?_
   refine QB ?_
   obtain rfl := Qw hm
   refine ⟨[_, _, _, _], [1000, 1001, 1002], ⟨⟨_, _, rfl, rfl, .inr ⟨ag31, _, _, sz31, rfl, rfl⟩⟩, rfl, rfl, rfl, trivial⟩, ?_, rfl, rfl, rfl, rfl⟩
   rfl
  refine XD 5 [true, true, true, true, true, true, true, true, true, true, true, false, false, false, false, false] ⟨[(0, .agg [.sl 2 (List.map Qq p0.Pre), .sl 8 (List.map QZ p0.Body), .sl 2 (List.map Qq p0.Post)]), (1, .agg [.sl 1 (List.map Qf p1.Vars), .sl 1 (List.map Qf p1.Cells)]), (2, .int .i64 p2), (3, .ptr 11 0 0), (4, .ptr 12 0 0), (6, .ptr 13 0 0), (7, .snil), (8, .int .i64 (0 : Int)), (9, .bool false), (10, .ptr 14 0 0), (11, .bool true), (12, .tup [.ptr 14 0 0, .bool true]), (13, .agg [.sl 2 (List.map Qq p0.Pre), .sl 8 (List.map QZ p0.Body), .sl 2 (List.map Qq p0.Post)]), (14, .agg [.sl 1 (List.map Qf p1.Vars), .sl 1 (List.map Qf p1.Cells)]), (15, .int .i64 p2), (16, .tup [.ptr 14 0 0, .bool true]), (17, .ptr 14 0 0), (18, .bool true), (19, .bool true), (20, .bool false), (22, .ptr 14 0 0), (23, .ptr 14 0 0), (24, .ptr 14 0 0), (25, .agg [.ow 15, .ow 16]), (26, .ptr 14 0 0), (27, .ptr 14 0 0), (28, .ptr 14 0 2), (29, .ow 17), (30, .ptr 14 0 0), (31, .ptr 14 0 0), (32, .ptr 14 0 5)], [(11, .box [.sl 2 (List.map Qq p0.Pre), .sl 8 (List.map QZ p0.Body), .sl 2 (List.map Qq p0.Post)]), (12, .box [.sl 1 (List.map Qf p1.Vars), .sl 1 (List.map Qf p1.Cells)]), (13, .box [.snil, .snil]), (14, .box [.ow 15, .ow 16, .ow 17, .int .i64 r16.1.fuel, .int .i64 r16.1.steps, .int .i64 r16.1.out]), (15, .arr ⟨false, true⟩ 1 2 (List.map Qf r16.1.state.Vars)), (16, .arr ⟨false, true⟩ 1 2 (List.map Qf r16.1.state.Cells)), (17, .arr ⟨false, true⟩ 1 2 (List.map Qf r16.1.events))]⟩ ?_ (fun hS67_2 => ?_)
  ·refine TZ_each [11, 12] (by kernel_rfl) rfl ?_
   refine ⟨?_, ?_⟩
   ·refine ⟨_, rfl, ?_⟩
    refine Qa rfl rfl rfl rfl (Qj ag2 rfl rfl) ?_
    refine Qe ?_
    refine QU [0, 1, 2, 3, 4, 6, 7, 8, 9, 10, 11, 12, 13, 14, 15, 16, 17, 18, 19, 20, 22, 23, 24, 25, 26, 27, 28, 29, 30, 31, 32, 33] [11, 12, 13, 14, 15, 16, 17] rfl rfl rfl rfl (by rw [hF]; rfl) ?_
    exact hS67_0
   ·refine ⟨_, rfl, ?_⟩
    refine Qr sz31 rfl rfl rfl rfl rfl rfl rfl rfl rfl ?_
    refine Qe ?_
    refine QU [0, 1, 2, 3, 4, 6, 7, 8, 9, 10, 11, 12, 13, 14, 15, 16, 17, 18, 19, 20, 22, 23, 24, 25, 26, 27, 28, 29, 30, 31, 32] [11, 12, 13, 14, 15, 16, 17] rfl rfl rfl rfl (by rw [hF]; rfl) ?_
    exact hS67_1
  refine XD 4 [true, true, true, true, true, true, true, false, true, true, true, true, true, false, false, false] ⟨[(0, .agg [.sl 2 (List.map Qq p0.Pre), .sl 8 (List.map QZ p0.Body), .sl 2 (List.map Qq p0.Post)]), (1, .agg [.sl 1 (List.map Qf p1.Vars), .sl 1 (List.map Qf p1.Cells)]), (2, .int .i64 p2), (3, .ptr 11 0 0), (4, .ptr 12 0 0), (6, .ptr 13 0 0), (7, .snil), (8, .int .i64 (0 : Int)), (9, .bool false), (10, .ptr 14 0 0), (11, .bool true), (12, .tup [.ptr 14 0 0, .bool true]), (13, .agg [.sl 2 (List.map Qq p0.Pre), .sl 8 (List.map QZ p0.Body), .sl 2 (List.map Qq p0.Post)]), (14, .agg [.sl 1 (List.map Qf p1.Vars), .sl 1 (List.map Qf p1.Cells)]), (15, .int .i64 p2), (16, .tup [.ptr 14 0 0, .bool true]), (17, .ptr 14 0 0), (18, .bool true), (19, .bool true), (20, .bool false), (22, .ptr 14 0 0), (23, .ptr 14 0 0), (24, .ptr 14 0 0), (25, .agg [.ow 15, .ow 16]), (26, .ptr 14 0 0), (27, .ptr 14 0 0), (28, .ptr 14 0 2), (30, .ptr 14 0 0), (31, .ptr 14 0 0), (32, .ptr 14 0 5), (33, .int .i64 r16.1.out)], [(11, .box [.sl 2 (List.map Qq p0.Pre), .sl 8 (List.map QZ p0.Body), .sl 2 (List.map Qq p0.Post)]), (12, .box [.sl 1 (List.map Qf p1.Vars), .sl 1 (List.map Qf p1.Cells)]), (13, .box [.ow 15, .ow 16]), (14, .box [.ow 15, .ow 16, .ow 17, .int .i64 r16.1.fuel, .int .i64 r16.1.steps, .int .i64 r16.1.out]), (15, .arr ⟨false, true⟩ 1 2 (List.map Qf r16.1.state.Vars)), (16, .arr ⟨false, true⟩ 1 2 (List.map Qf r16.1.state.Cells)), (17, .arr ⟨false, true⟩ 1 2 (List.map Qf r16.1.events))]⟩ ?_ (fun hS67_3 => ?_)
  ·refine Ql 7 (by kernel_rfl) rfl rfl rfl rfl rfl (Qj ag29 rfl rfl) ?_
   refine Ql 13 (by kernel_rfl) rfl rfl rfl rfl rfl (Qb rfl) ?_
   refine Ql 14 (by kernel_rfl) rfl rfl rfl rfl rfl (Qb rfl) ?_
   refine Ql 15 (by kernel_rfl) rfl rfl rfl rfl rfl (Qb rfl) ?_
   refine Q8 (by kernel_rfl) ?_
   refine Qo [6, 7, 8, 9] [13, 15, 16, 17] rfl rfl rfl rfl (by rw [hF]; rfl) ?_
   refine T_ren [(13, 13), (15, 1000), (16, 1001), (17, 1002)] rfl rfl rfl (by rw [hF]; rfl) ?_
   refine QB ?_
   obtain rfl := Qw hm
   refine ⟨[_, _, _, _], [1000, 1001, 1002], ⟨⟨_, _, rfl, rfl, .inr ⟨ag31, _, _, sz31, rfl, rfl⟩⟩, rfl, rfl, rfl, trivial⟩, ?_, rfl, rfl, rfl, rfl⟩
   rfl
  refine XD 5 [true, true, true, true, true, true, true, false, true, true, true, true, false, false, false, false] ⟨[(0, .agg [.sl 2 (List.map Qq p0.Pre), .sl 8 (List.map QZ p0.Body), .sl 2 (List.map Qq p0.Post)]), (1, .agg [.sl 1 (List.map Qf p1.Vars), .sl 1 (List.map Qf p1.Cells)]), (2, .int .i64 p2), (3, .ptr 11 0 0), (4, .ptr 12 0 0), (6, .ptr 13 0 0), (7, .snil), (8, .int .i64 (0 : Int)), (9, .bool false), (10, .ptr 14 0 0), (11, .bool true), (12, .tup [.ptr 14 0 0, .bool true]), (13, .agg [.sl 2 (List.map Qq p0.Pre), .sl 8 (List.map QZ p0.Body), .sl 2 (List.map Qq p0.Post)]), (14, .agg [.sl 1 (List.map Qf p1.Vars), .sl 1 (List.map Qf p1.Cells)]), (15, .int .i64 p2), (16, .tup [.ptr 14 0 0, .bool true]), (17, .ptr 14 0 0), (18, .bool true), (19, .bool true), (20, .bool false), (22, .ptr 14 0 0), (23, .ptr 14 0 0), (24, .ptr 14 0 0), (25, .agg [.ow 15, .ow 16]), (26, .ptr 14 0 0), (27, .ptr 14 0 0), (28, .ptr 14 0 2), (30, .ptr 14 0 0), (31, .ptr 14 0 0), (32, .ptr 14 0 5), (33, .int .i64 r16.1.out)], [(11, .box [.sl 2 (List.map Qq p0.Pre), .sl 8 (List.map QZ p0.Body), .sl 2 (List.map Qq p0.Post)]), (12, .box [.sl 1 (List.map Qf p1.Vars), .sl 1 (List.map Qf p1.Cells)]), (13, .box [.snil, .snil]), (14, .box [.ow 15, .ow 16, .ow 17, .int .i64 r16.1.fuel, .int .i64 r16.1.steps, .int .i64 r16.1.out]), (15, .arr ⟨false, true⟩ 1 2 (List.map Qf r16.1.state.Vars)), (16, .arr ⟨false, true⟩ 1 2 (List.map Qf r16.1.state.Cells)), (17, .arr ⟨false, true⟩ 1 2 (List.map Qf r16.1.events))]⟩ ?_ (fun hS67_4 => ?_)
  ·refine TZ_each [7, 12] (by kernel_rfl) rfl ?_
   refine ⟨?_, ?_⟩
   ·refine ⟨_, rfl, ?_⟩
    refine Qa rfl rfl rfl rfl (Qj ag29 rfl rfl) ?_
    refine Qe ?_
    refine QU [0, 1, 2, 3, 4, 6, 7, 8, 9, 10, 11, 12, 13, 14, 15, 16, 17, 18, 19, 20, 22, 23, 24, 25, 26, 27, 28, 29, 30, 31, 32, 33] [11, 12, 13, 14, 15, 16, 17] rfl rfl rfl rfl (by rw [hF]; rfl) ?_
    exact hS67_0
   ·refine ⟨_, rfl, ?_⟩
    refine Qr sz31 rfl rfl rfl rfl rfl rfl rfl rfl rfl ?_
    refine Qe ?_
    refine QU [0, 1, 2, 3, 4, 6, 7, 8, 9, 10, 11, 12, 13, 14, 15, 16, 17, 18, 19, 20, 22, 23, 24, 25, 26, 27, 28, 30, 31, 32, 33] [11, 12, 13, 14, 15, 16, 17] rfl rfl rfl rfl (by rw [hF]; rfl) ?_
    exact hS67_3
  refine XD 5 [true, true, true, true, true, true, true, false, true, true, true, false, true, false, false, false] ⟨[(0, .agg [.sl 2 (List.map Qq p0.Pre), .sl 8 (List.map QZ p0.Body), .sl 2 (List.map Qq p0.Post)]), (1, .agg [.sl 1 (List.map Qf p1.Vars), .sl 1 (List.map Qf p1.Cells)]), (2, .int .i64 p2), (3, .ptr 11 0 0), (4, .ptr 12 0 0), (6, .ptr 13 0 0), (7, .snil), (8, .int .i64 (0 : Int)), (9, .bool false), (10, .ptr 14 0 0), (11, .bool true), (12, .tup [.ptr 14 0 0, .bool true]), (13, .agg [.sl 2 (List.map Qq p0.Pre), .sl 8 (List.map QZ p0.Body), .sl 2 (List.map Qq p0.Post)]), (14, .agg [.sl 1 (List.map Qf p1.Vars), .sl 1 (List.map Qf p1.Cells)]), (15, .int .i64 p2), (16, .tup [.ptr 14 0 0, .bool true]), (17, .ptr 14 0 0), (18, .bool true), (19, .bool true), (20, .bool false), (22, .ptr 14 0 0), (23, .ptr 14 0 0), (24, .ptr 14 0 0), (25, .agg [.ow 15, .ow 16]), (26, .ptr 14 0 0), (27, .ptr 14 0 0), (28, .ptr 14 0 2), (30, .ptr 14 0 0), (31, .ptr 14 0 0), (32, .ptr 14 0 5)], [(11, .box [.sl 2 (List.map Qq p0.Pre), .sl 8 (List.map QZ p0.Body), .sl 2 (List.map Qq p0.Post)]), (12, .box [.sl 1 (List.map Qf p1.Vars), .sl 1 (List.map Qf p1.Cells)]), (13, .box [.ow 15, .ow 16]), (14, .box [.ow 15, .ow 16, .ow 17, .int .i64 r16.1.fuel, .int .i64 r16.1.steps, .int .i64 r16.1.out]), (15, .arr ⟨false, true⟩ 1 2 (List.map Qf r16.1.state.Vars)), (16, .arr ⟨false, true⟩ 1 2 (List.map Qf r16.1.state.Cells)), (17, .arr ⟨false, true⟩ 1 2 (List.map Qf r16.1.events))]⟩ ?_ (fun hS67_5 => ?_)
  ·refine Ql 7 (by kernel_rfl) rfl rfl rfl rfl rfl (Qj ag29 rfl rfl) ?_
   refine Ql 11 (by kernel_rfl) rfl rfl rfl rfl rfl (Qj ag2 rfl rfl) ?_
   refine Ql 13 (by kernel_rfl) rfl rfl rfl rfl rfl (Qb rfl) ?_
   refine Ql 14 (by kernel_rfl) rfl rfl rfl rfl rfl (Qb rfl) ?_
   refine Ql 15 (by kernel_rfl) rfl rfl rfl rfl rfl (Qb rfl) ?_
   refine Q8 (by kernel_rfl) ?_
   refine Qo [6, 7, 8, 9] [13, 15, 16, 17] rfl rfl rfl rfl (by rw [hF]; rfl) ?_
   refine T_ren [(13, 13), (15, 1000), (16, 1001), (17, 1002)] rfl rfl rfl (by rw [hF]; rfl) ?_
   refine QB ?_
   obtain rfl := Qw hm
   refine ⟨[_, _, _, _], [1000, 1001, 1002], ⟨⟨_, _, rfl, rfl, .inr ⟨ag31, _, _, sz31, rfl, rfl⟩⟩, rfl, rfl, rfl, trivial⟩, ?_, rfl, rfl, rfl, rfl⟩
   rfl
  refine TZ_each [7, 11, 12] (by kernel_rfl) rfl ?_
  refine ⟨?_, ?_, ?_⟩
  ·refine ⟨_, rfl, ?_⟩
   refine Qa rfl rfl rfl rfl (Qj ag29 rfl rfl) ?_
   refine Qe ?_
   refine QU [0, 1, 2, 3, 4, 6, 7, 8, 9, 10, 11, 12, 13, 14, 15, 16, 17, 18, 19, 20, 22, 23, 24, 25, 26, 27, 28, 29, 30, 31, 32] [11, 12, 13, 14, 15, 16, 17] rfl rfl rfl rfl (by rw [hF]; rfl) ?_
   exact hS67_2
  ·refine ⟨_, rfl, ?_⟩
   refine Qa rfl rfl rfl rfl (Qj ag2 rfl rfl) ?_
   refine Qe ?_
   refine QU [0, 1, 2, 3, 4, 6, 7, 8, 9, 10, 11, 12, 13, 14, 15, 16, 17, 18, 19, 20, 22, 23, 24, 25, 26, 27, 28, 30, 31, 32, 33] [11, 12, 13, 14, 15, 16, 17] rfl rfl rfl rfl (by rw [hF]; rfl) ?_
   exact hS67_4
  ·refine ⟨_, rfl, ?_⟩
   refine Qr sz31 rfl rfl rfl rfl rfl rfl rfl rfl rfl ?_
   refine Qe ?_
   refine QU [0, 1, 2, 3, 4, 6, 7, 8, 9, 10, 11, 12, 13, 14, 15, 16, 17, 18, 19, 20, 22, 23, 24, 25, 26, 27, 28, 30, 31, 32] [11, 12, 13, 14, 15, 16, 17] rfl rfl rfl rfl (by rw [hF]; rfl) ?_
   exact hS67_5
 ·replace hm := QM hq hm
  refine TLE_call [] [] [] (by have hc := c_impl_started p0 p1 p2 r16 hr16; rw [hq] at hc; exact hc) (fun _ => rfl) Try.call45 rfl rfl rfl rfl rfl trivial rfl rfl rfl rfl rfl rfl rfl rfl rfl rfl rfl ?_
  refine Qa rfl rfl rfl rfl (Qd rfl) ?_
  refine Qa rfl rfl rfl rfl (QH rfl rfl) ?_
  refine Qa rfl rfl rfl rfl (QH rfl rfl) ?_
  refine Qa rfl rfl rfl rfl (Qb rfl) ?_
  refine Qa rfl rfl rfl rfl (Qb rfl) ?_
  refine Qe ?_
  refine Qn ?_
  refine Qn ?_
  refine Qc ?_
  refine Qa rfl rfl rfl rfl (Qd rfl) ?_
  refine Qa rfl rfl rfl rfl (op_not rfl) ?_
  refine Qe ?_
  refine T_cond_true rfl ?_
  refine Qn ?_
  refine Qc ?_
  refine Qa rfl rfl rfl rfl (Xn pl31 z31 rfl rfl rfl rfl rfl) ?_
  refine Qr sz31 rfl rfl rfl rfl rfl rfl rfl rfl rfl ?_
  refine Qa rfl rfl rfl rfl (Qb rfl) ?_
  refine Qa rfl rfl rfl rfl (Qb rfl) ?_
  refine Qa rfl rfl rfl rfl (Qb rfl) ?_
  refine Qe ?_
  refine T_ownNil 7 1348 ⟨false, true⟩ 2 rfl rfl (sz := 1) rfl rfl rfl ?_
  refine Xo 13 0 1349 ⟨false, true⟩ 2 rfl rfl rfl (sz := 1) rfl rfl rfl rfl ?_
  refine Xo 13 1 1350 ⟨false, true⟩ 2 rfl rfl rfl (sz := 1) rfl rfl rfl rfl ?_
  refine Qo [6, 7, 8, 9] [13, 1348, 1349, 1350] rfl rfl rfl rfl (by rw [hF]; rfl) ?_
  refine T_ren [(13, 13), (1348, 1002), (1349, 1000), (1350, 1001)] rfl rfl rfl (by rw [hF]; rfl) ?_
  refine Qo [6, 7, 8, 9] [13, 1000, 1001, 1002] rfl rfl rfl rfl (by rw [hF]; rfl) ?_
  refine QB ?_
  obtain rfl := Qw hm
  refine ⟨[_, _, _, _], [1000, 1001, 1002], ⟨⟨_, _, rfl, rfl, .inr ⟨ag31, _, _, sz31, rfl, rfl⟩⟩, rfl, rfl, rfl, trivial⟩, ?_, rfl, rfl, rfl, rfl⟩
  rfl
theorem c_impl_StepsOf (p0 : Program) (p1 : State) (p2 : Int) (out : Int × Bool) (hm : m_impl_StepsOf p0 p1 p2 = some out) : ACall Try.prog 14 [.agg [.sl 2 (List.map Qq p0.Pre), .sl 8 (List.map QZ p0.Body), .sl 2 (List.map Qq p0.Post)], .agg [.sl 1 (List.map Qf p1.Vars), .sl 1 (List.map Qf p1.Cells)], .int .i64 p2] [] (.tup [.int .i64 out.1, .bool out.2]) [] := by
 refine ACall.intro Try.func14 rfl Try.ntmps14 rfl (fun F hF => ?_)
 unfold m_impl_StepsOf at hm
 refine Qn ?_
 refine Qc ?_
 refine TL_box 11 rfl rfl rfl rfl rfl rfl rfl ?_
 refine TL_box 12 rfl rfl rfl rfl rfl rfl rfl ?_
 refine Qa rfl rfl rfl rfl (Qb rfl) ?_
 refine Qa rfl rfl rfl rfl (Qb rfl) ?_
 refine Qe ?_
 refine Qn ?_
 refine Qc ?_
 refine Qa rfl rfl rfl rfl (Qt ag27 sz27 rfl rfl rfl) ?_
 refine Qa rfl rfl rfl rfl (Qt ag31 sz31 rfl rfl rfl) ?_
 refine Qa rfl rfl rfl rfl (Qd rfl) ?_
 obtain ⟨r14, hr14, hm⟩ := Qv hm
 rcases Bool.eq_false_or_eq_true r14.2 with hq | hq
 ·replace hm := QO hq hm
  refine TLE_call [] [(1000, 13), (1001, 14), (1002, 15), (1003, 16)] [] (by have hc := c_impl_started p0 p1 p2 r14 hr14; rw [hq] at hc; exact hc) (fun _ => rfl) Try.call45 rfl rfl rfl rfl rfl trivial rfl rfl rfl rfl rfl rfl rfl rfl rfl rfl rfl ?_
  refine Qa rfl rfl rfl rfl (Qd rfl) ?_
  refine Qa rfl rfl rfl rfl (QH rfl rfl) ?_
  refine Qa rfl rfl rfl rfl (QH rfl rfl) ?_
  refine Qa rfl rfl rfl rfl (Qb rfl) ?_
  refine Qa rfl rfl rfl rfl (Qb rfl) ?_
  refine Qe ?_
  refine Qn ?_
  refine Qn ?_
  refine Qc ?_
  refine Qa rfl rfl rfl rfl (Qd rfl) ?_
  refine Qa rfl rfl rfl rfl (op_not rfl) ?_
  refine Qe ?_
  refine Xz rfl ?_
  refine QL ?_
  refine Qn ?_
  refine Qc ?_
  refine Qa rfl rfl rfl rfl (Qd rfl) ?_
  refine Qa rfl rfl rfl rfl (Qs rfl rfl) ?_
  refine Qa rfl rfl rfl rfl (Qi fa73_3 rfl rfl) ?_
  refine Qa rfl rfl rfl rfl (Qj ag2 rfl rfl) ?_
  refine Qa rfl rfl rfl rfl (Qb rfl) ?_
  refine Qa rfl rfl rfl rfl (Qb rfl) ?_
  refine Qe ?_
  refine Qo [6, 7] [] rfl rfl rfl rfl (by rw [hF]; rfl) ?_
  refine QB ?_
  obtain rfl := Qw hm
  refine ⟨[_, _], [], ⟨rfl, rfl, trivial⟩, ?_, rfl, rfl, rfl, rfl⟩
  rfl
 ·replace hm := QM hq hm
  refine TLE_call [] [] [] (by have hc := c_impl_started p0 p1 p2 r14 hr14; rw [hq] at hc; exact hc) (fun _ => rfl) Try.call45 rfl rfl rfl rfl rfl trivial rfl rfl rfl rfl rfl rfl rfl rfl rfl rfl rfl ?_
  refine Qa rfl rfl rfl rfl (Qd rfl) ?_
  refine Qa rfl rfl rfl rfl (QH rfl rfl) ?_
  refine Qa rfl rfl rfl rfl (QH rfl rfl) ?_
  refine Qa rfl rfl rfl rfl (Qb rfl) ?_
  refine Qa rfl rfl rfl rfl (Qb rfl) ?_
  refine Qe ?_
  refine Qn ?_
  refine Qn ?_
  refine Qc ?_
  refine Qa rfl rfl rfl rfl (Qd rfl) ?_
  refine Qa rfl rfl rfl rfl (op_not rfl) ?_
  refine Qe ?_
  refine T_cond_true rfl ?_
  refine Qn ?_
  refine Qc ?_
  refine Qa rfl rfl rfl rfl (Qb rfl) ?_
  refine Qa rfl rfl rfl rfl (Qb rfl) ?_
  refine Qe ?_
  refine Qo [6, 7] [] rfl rfl rfl rfl (by rw [hF]; rfl) ?_
  refine QB ?_
  obtain rfl := Qw hm
  refine ⟨[_, _], [], ⟨rfl, rfl, trivial⟩, ?_, rfl, rfl, rfl, rfl⟩
  rfl
theorem c_laws_r8States (p0 : State) (p1 : State) (out : Bool) (hm : m_laws_r8States p0 p1 = some out) : ACall Try.prog 17 [.agg [.sl 1 (List.map Qf p0.Vars), .sl 1 (List.map Qf p0.Cells)], .agg [.sl 1 (List.map Qf p1.Vars), .sl 1 (List.map Qf p1.Cells)]] [] (.bool out) [] := by
 refine ACall.intro Try.func17 rfl Try.ntmps17 rfl (fun F hF => ?_)
 unfold m_laws_r8States at hm
 refine Qn ?_
 refine Qc ?_
 refine TL_box 11 rfl rfl rfl rfl rfl rfl rfl ?_
 refine TL_box 12 rfl rfl rfl rfl rfl rfl rfl ?_
 refine Qa rfl rfl rfl rfl (Qb rfl) ?_
 refine Qe ?_
 refine Qn ?_
 refine Qc ?_
 refine Qa rfl rfl rfl rfl (Qi fa31_0 rfl rfl) ?_
 refine Qa rfl rfl rfl rfl (Qj ag29 rfl rfl) ?_
 refine Qa rfl rfl rfl rfl (Qi fa31_0 rfl rfl) ?_
 refine Qa rfl rfl rfl rfl (Qj ag29 rfl rfl) ?_
 obtain ⟨r9, hr9, hm⟩ := Qv hm
 refine QG (c_laws_r8Same p0.Vars p1.Vars r9 hr9) Try.call16 rfl rfl rfl rfl rfl ?_
 refine Qa rfl rfl rfl rfl (Qd rfl) ?_
 refine Qy 10 rfl rfl rfl (fun hq => ?_) (fun hq => ?_)
 ·replace hm := QO hq hm
  refine Qm rfl rfl ?_
  refine Qa rfl rfl rfl rfl (Qi fa31_1 rfl rfl) ?_
  refine Qm rfl rfl ?_
  refine Qa rfl rfl rfl rfl (Qj ag29 rfl rfl) ?_
  refine Qm rfl rfl ?_
  refine Qa rfl rfl rfl rfl (Qi fa31_1 rfl rfl) ?_
  refine Qm rfl rfl ?_
  refine Qa rfl rfl rfl rfl (Qj ag29 rfl rfl) ?_
  refine Qm rfl rfl ?_
  obtain ⟨r15, hr15, hm⟩ := Qv hm
  refine QG (c_laws_r8Same p0.Cells p1.Cells r15 hr15) Try.call16 rfl rfl rfl rfl rfl ?_
  refine Qa rfl rfl rfl rfl (Qp rfl rfl) ?_
  refine Qa rfl rfl rfl rfl (Qb rfl) ?_
  refine Qe ?_
  refine Qo [4] [] rfl rfl rfl rfl (by rw [hF]; rfl) ?_
  refine QB ?_
  obtain rfl := Qw hm
  refine ⟨[_], [], ⟨rfl, trivial⟩, ?_, rfl, rfl, rfl, rfl⟩
  rfl
 ·replace hm := QM hq hm
  refine Qh rfl rfl rfl rfl rfl rfl rfl ?_
  refine Qh rfl rfl rfl rfl rfl rfl rfl ?_
  refine Qh rfl rfl rfl rfl rfl rfl rfl ?_
  refine Qh rfl rfl rfl rfl rfl rfl rfl ?_
  refine Qh rfl rfl rfl rfl rfl rfl rfl ?_
  refine Qa rfl rfl rfl rfl (Qk rfl rfl) ?_
  refine Qa rfl rfl rfl rfl (Qb rfl) ?_
  refine Qe ?_
  refine Qo [4] [] rfl rfl rfl rfl (by rw [hF]; rfl) ?_
  refine QB ?_
  obtain rfl := Qw hm
  refine ⟨[_], [], ⟨rfl, trivial⟩, ?_, rfl, rfl, rfl, rfl⟩
  rfl
theorem c_laws_FnSimplified (p0 : List Int) (p1 : List Int) (out : Bool) (hm : m_laws_FnSimplified p0 p1 = some out) : ACall Try.prog 7 [.sl 1 (List.map a_u8 p0), .sl 1 (List.map a_u8 p1)] [] (.bool out) [] := by
 refine ACall.intro Try.func7 rfl Try.ntmps7 rfl (fun F hF => ?_)
 unfold m_laws_FnSimplified at hm
 refine Qn ?_
 refine Qc ?_
 refine Qa rfl rfl rfl rfl (Qb rfl) ?_
 refine Qe ?_
 refine Qn ?_
 refine Qn ?_
 refine Qc ?_
 refine Qa rfl rfl rfl rfl (Qd rfl) ?_
 refine Qa rfl rfl rfl rfl (Qd rfl) ?_
 obtain ⟨r37, hr37, hm⟩ := Qv hm
 refine QG (c_laws_r8Long p0 p1 r37 hr37) Try.call10 rfl rfl rfl rfl rfl ?_
 refine Qe ?_
 refine QI rfl (fun hq => ?_) (fun hq => ?_)
 ·replace hm := QO hq hm
  refine Qn ?_
  refine Qc ?_
  refine Qa rfl rfl rfl rfl (Qb rfl) ?_
  refine Qe ?_
  refine Qo [4] [] rfl rfl rfl rfl (by rw [hF]; rfl) ?_
  refine QB ?_
  obtain rfl := Qw hm
  refine ⟨[_], [], ⟨rfl, trivial⟩, ?_, rfl, rfl, rfl, rfl⟩
  rfl
 ·replace hm := QM hq hm
  refine QL ?_
  refine Qn ?_
  refine Qc ?_
  refine Qa rfl rfl rfl rfl (Qd rfl) ?_
  obtain ⟨r39, hr39, hm⟩ := Qv hm
  refine TL_callT (c_spec_R8Program p0 r39 hr39) Try.call11 rfl rfl rfl rfl rfl ?_
  refine Xk 11 z27 rfl rfl rfl rfl rfl rfl rfl ?_
  refine Qr sz27 rfl rfl rfl rfl rfl rfl rfl rfl rfl ?_
  refine Qe ?_
  refine Qn ?_
  refine Qc ?_
  refine Qa rfl rfl rfl rfl (Qd rfl) ?_
  obtain ⟨r41, hr41, hm⟩ := Qv hm
  refine TL_callO [(1000, 12), (1001, 13)] (c_spec_R8State p1 r41 hr41) Try.call12 rfl rfl rfl rfl rfl rfl rfl rfl rfl rfl rfl rfl rfl ?_
  refine Xk 14 z31 rfl rfl rfl rfl rfl rfl rfl ?_
  refine Qr sz31 rfl rfl rfl rfl rfl rfl rfl rfl rfl ?_
  refine Qe ?_
  refine Qn ?_
  refine Qc ?_
  refine Qa rfl rfl rfl rfl (Qi fa27_1 rfl rfl) ?_
  refine Qa rfl rfl rfl rfl (Qj ag25 rfl rfl) ?_
  obtain ⟨r45, hr45, hm⟩ := Qv hm
  refine TL_callO [(1000, 15)] (c_impl_SimplifyBody r39.Body r45 hr45) Try.call34 rfl rfl rfl rfl rfl rfl rfl rfl rfl rfl rfl rfl rfl ?_
  refine Qa rfl rfl rfl rfl (Qd rfl) ?_
  refine Qa rfl rfl rfl rfl (QH rfl rfl) ?_
  refine Qa rfl rfl rfl rfl (QH rfl rfl) ?_
  refine Qa rfl rfl rfl rfl (Qb rfl) ?_
  refine Qa rfl rfl rfl rfl (Qb rfl) ?_
  refine Qe ?_
  refine Qn ?_
  refine Qc ?_
  refine Qa rfl rfl rfl rfl (Qi fa27_1 rfl rfl) ?_
  refine Qa rfl rfl rfl rfl (Qj ag25 rfl rfl) ?_
  obtain ⟨r51, hr51, hm⟩ := Qv hm
  refine TL_callO [(1000, 16)] (c_impl_NormalBody r39.Body r51 hr51) Try.call24 rfl rfl rfl rfl rfl rfl rfl rfl rfl rfl rfl rfl rfl ?_
  refine Qa rfl rfl rfl rfl (Qd rfl) ?_
  refine Qa rfl rfl rfl rfl (QH rfl rfl) ?_
  refine Qa rfl rfl rfl rfl (QH rfl rfl) ?_
  refine Qa rfl rfl rfl rfl (Qb rfl) ?_
  refine Qa rfl rfl rfl rfl (Qb rfl) ?_
  refine Qe ?_
  refine Qn ?_
  refine Qc ?_
  refine Qa rfl rfl rfl rfl (Qd rfl) ?_
  obtain ⟨r56, hr56, hm⟩ := Qv hm
  refine TL_callO [(1000, 17)] (c_impl_SimplifyBody r45.1 r56 hr56) Try.call34 rfl rfl rfl rfl rfl rfl rfl rfl rfl rfl rfl rfl rfl ?_
  refine Qa rfl rfl rfl rfl (Qd rfl) ?_
  refine Qa rfl rfl rfl rfl (QH rfl rfl) ?_
  refine Qa rfl rfl rfl rfl (QH rfl rfl) ?_
  refine Qa rfl rfl rfl rfl (Qb rfl) ?_
  refine Qa rfl rfl rfl rfl (Qb rfl) ?_
  refine Qe ?_
  refine Qn ?_
  refine Qc ?_
  refine Qa rfl rfl rfl rfl (Qd rfl) ?_
  obtain ⟨r61, hr61, hm⟩ := Qv hm
  refine TL_callO [(1000, 18)] (c_impl_NormalBody r51.1 r61 hr61) Try.call24 rfl rfl rfl rfl rfl rfl rfl rfl rfl rfl rfl rfl rfl ?_
  refine Qa rfl rfl rfl rfl (Qd rfl) ?_
  refine Qa rfl rfl rfl rfl (QH rfl rfl) ?_
  refine Qa rfl rfl rfl rfl (QH rfl rfl) ?_
  refine Qa rfl rfl rfl rfl (Qb rfl) ?_
  refine Qa rfl rfl rfl rfl (Qb rfl) ?_
  refine Qe ?_
  refine Qn ?_
  refine Qn ?_
  refine Qc ?_
  refine Qa rfl rfl rfl rfl (Qd rfl) ?_
  refine Qa rfl rfl rfl rfl (op_not rfl) ?_
  refine Qa rfl rfl rfl rfl (Qd rfl) ?_
  refine Xb 3 (fun _ : Unit => ⟨[(5, .ptr 11 0 0), (6, .ptr 14 0 0), (7, .ow 15), (9, .ow 16), (11, .ow 17), (12, .bool r56.2), (13, .ow 18), (14, .bool r61.2), (69, .bool ((!r45.2) || (!r51.2)))], [(11, .box [.sl 2 (List.map Qq r39.Pre), .sl 8 (List.map QZ r39.Body), .sl 2 (List.map Qq r39.Post)]), (12, .arr ⟨false, true⟩ 1 2 (List.map Qf r41.Vars)), (13, .arr ⟨false, true⟩ 1 2 (List.map Qf r41.Cells)), (14, .box [.ow 12, .ow 13]), (15, .arr ⟨false, true⟩ 8 77 (List.map QZ r45.1)), (16, .arr ⟨false, true⟩ 8 77 (List.map QZ r51.1)), (17, .arr ⟨false, true⟩ 8 77 (List.map QZ r56.1)), (18, .arr ⟨false, true⟩ 8 77 (List.map QZ r61.1))]⟩) (fun _ => True) (fun _ _ => ?_) (fun hjj => ?_)
  ·refine Qa rfl rfl rfl rfl (Qd rfl) ?_
   refine Xb 3 (fun _ : Unit => ⟨[(5, .ptr 11 0 0), (6, .ptr 14 0 0), (7, .ow 15), (9, .ow 16), (11, .ow 17), (13, .ow 18), (14, .bool r61.2), (73, .bool (((!r45.2) || (!r51.2)) || (!r56.2)))], [(11, .box [.sl 2 (List.map Qq r39.Pre), .sl 8 (List.map QZ r39.Body), .sl 2 (List.map Qq r39.Post)]), (12, .arr ⟨false, true⟩ 1 2 (List.map Qf r41.Vars)), (13, .arr ⟨false, true⟩ 1 2 (List.map Qf r41.Cells)), (14, .box [.ow 12, .ow 13]), (15, .arr ⟨false, true⟩ 8 77 (List.map QZ r45.1)), (16, .arr ⟨false, true⟩ 8 77 (List.map QZ r51.1)), (17, .arr ⟨false, true⟩ 8 77 (List.map QZ r56.1)), (18, .arr ⟨false, true⟩ 8 77 (List.map QZ r61.1))]⟩) (fun _ => True) (fun _ _ => ?_) (fun hjj => ?_)
   ·refine Qa rfl rfl rfl rfl (Qd rfl) ?_
    refine Xb 3 (fun _ : Unit => ⟨[(5, .ptr 11 0 0), (6, .ptr 14 0 0), (7, .ow 15), (9, .ow 16), (11, .ow 17), (13, .ow 18), (77, .bool ((((!r45.2) || (!r51.2)) || (!r56.2)) || (!r61.2)))], [(11, .box [.sl 2 (List.map Qq r39.Pre), .sl 8 (List.map QZ r39.Body), .sl 2 (List.map Qq r39.Post)]), (12, .arr ⟨false, true⟩ 1 2 (List.map Qf r41.Vars)), (13, .arr ⟨false, true⟩ 1 2 (List.map Qf r41.Cells)), (14, .box [.ow 12, .ow 13]), (15, .arr ⟨false, true⟩ 8 77 (List.map QZ r45.1)), (16, .arr ⟨false, true⟩ 8 77 (List.map QZ r51.1)), (17, .arr ⟨false, true⟩ 8 77 (List.map QZ r56.1)), (18, .arr ⟨false, true⟩ 8 77 (List.map QZ r61.1))]⟩) (fun _ => True) (fun _ _ => ?_) (fun hjj => ?_)
    ·refine Qa rfl rfl rfl rfl (Qd rfl) ?_
     refine Qy 78 rfl rfl rfl (fun hq => ?_) (fun hq => ?_)
     ·replace hm := QO hq hm
      refine Qh rfl rfl rfl rfl rfl rfl rfl ?_
      refine Qh rfl rfl rfl rfl rfl rfl rfl ?_
      refine Qh rfl rfl rfl rfl rfl rfl rfl ?_
      refine Qa rfl rfl rfl rfl (Qp rfl rfl) ?_
      refine Qa rfl rfl rfl rfl (Qd rfl) ?_
      refine Qh rfl rfl rfl rfl rfl rfl rfl ?_
      refine Qh rfl rfl rfl rfl rfl rfl rfl ?_
      refine Qh rfl rfl rfl rfl rfl rfl rfl ?_
      refine Qa rfl rfl rfl rfl (Qp rfl rfl) ?_
      refine Qa rfl rfl rfl rfl (Qd rfl) ?_
      refine Qh rfl rfl rfl rfl rfl rfl rfl ?_
      refine Qh rfl rfl rfl rfl rfl rfl rfl ?_
      refine Qh rfl rfl rfl rfl rfl rfl rfl ?_
      refine Qh rfl rfl rfl rfl rfl rfl rfl ?_
      refine Qh rfl rfl rfl rfl rfl rfl rfl ?_
      refine Qh rfl rfl rfl rfl rfl rfl rfl ?_
      refine Qa rfl rfl rfl rfl (Qp rfl rfl) ?_
      refine Qa rfl rfl rfl rfl (Qd rfl) ?_
      refine Qh rfl rfl rfl rfl rfl rfl rfl ?_
      refine Qh rfl rfl rfl rfl rfl rfl rfl ?_
      refine Qh rfl rfl rfl rfl rfl rfl rfl ?_
      refine Qh rfl rfl rfl rfl rfl rfl rfl ?_
      refine Qa rfl rfl rfl rfl (Qp rfl rfl) ?_
      refine Qa rfl rfl rfl rfl (Qd rfl) ?_
      refine Qh rfl rfl rfl rfl rfl rfl rfl ?_
      refine Qh rfl rfl rfl rfl rfl rfl rfl ?_
      refine Qh rfl rfl rfl rfl rfl rfl rfl ?_
      refine Qh rfl rfl rfl rfl rfl rfl rfl ?_
      refine Qa rfl rfl rfl rfl (Qp rfl rfl) ?_
      refine Qe ?_
      refine T_cond_true rfl ?_
      refine Qn ?_
      refine Qc ?_
      refine Qa rfl rfl rfl rfl (Qb rfl) ?_
      refine Qe ?_
      refine Qo [4] [] rfl rfl rfl rfl (by rw [hF]; rfl) ?_
      refine QB ?_
      obtain rfl := Qw hm
      refine ⟨[_], [], ⟨rfl, trivial⟩, ?_, rfl, rfl, rfl, rfl⟩
      rfl
     ·replace hm := QM hq hm
      refine Qm rfl rfl ?_
      refine Qa rfl rfl rfl rfl (Qd rfl) ?_
      refine Qm rfl rfl ?_
      obtain ⟨r80, hr80, hm⟩ := Qv hm
      refine QG (c_impl_IsBody r45.1 r80 hr80) Try.call35 rfl rfl rfl rfl rfl ?_
      refine Qm rfl rfl ?_
      refine Qa rfl rfl rfl rfl (op_not rfl) ?_
      refine Qa rfl rfl rfl rfl (Qk rfl rfl) ?_
      refine Qa rfl rfl rfl rfl (Qd rfl) ?_
      refine Qy 83 rfl rfl rfl (fun hq => ?_) (fun hq => ?_)
      ·replace hm := QO hq hm
       refine Qh rfl rfl rfl rfl rfl rfl rfl ?_
       refine Qh rfl rfl rfl rfl rfl rfl rfl ?_
       refine Qh rfl rfl rfl rfl rfl rfl rfl ?_
       refine Qa rfl rfl rfl rfl (Qp rfl rfl) ?_
       refine Qa rfl rfl rfl rfl (Qd rfl) ?_
       refine Qh rfl rfl rfl rfl rfl rfl rfl ?_
       refine Qh rfl rfl rfl rfl rfl rfl rfl ?_
       refine Qh rfl rfl rfl rfl rfl rfl rfl ?_
       refine Qh rfl rfl rfl rfl rfl rfl rfl ?_
       refine Qh rfl rfl rfl rfl rfl rfl rfl ?_
       refine Qh rfl rfl rfl rfl rfl rfl rfl ?_
       refine Qa rfl rfl rfl rfl (Qp rfl rfl) ?_
       refine Qa rfl rfl rfl rfl (Qd rfl) ?_
       refine Qh rfl rfl rfl rfl rfl rfl rfl ?_
       refine Qh rfl rfl rfl rfl rfl rfl rfl ?_
       refine Qh rfl rfl rfl rfl rfl rfl rfl ?_
       refine Qh rfl rfl rfl rfl rfl rfl rfl ?_
       refine Qa rfl rfl rfl rfl (Qp rfl rfl) ?_
       refine Qa rfl rfl rfl rfl (Qd rfl) ?_
       refine Qh rfl rfl rfl rfl rfl rfl rfl ?_
       refine Qh rfl rfl rfl rfl rfl rfl rfl ?_
       refine Qh rfl rfl rfl rfl rfl rfl rfl ?_
       refine Qh rfl rfl rfl rfl rfl rfl rfl ?_
       refine Qa rfl rfl rfl rfl (Qp rfl rfl) ?_
       refine Qe ?_
       refine T_cond_true rfl ?_
       refine Qn ?_
       refine Qc ?_
       refine Qa rfl rfl rfl rfl (Qb rfl) ?_
       refine Qe ?_
       refine Qo [4] [] rfl rfl rfl rfl (by rw [hF]; rfl) ?_
       refine QB ?_
       obtain rfl := Qw hm
       refine ⟨[_], [], ⟨rfl, trivial⟩, ?_, rfl, rfl, rfl, rfl⟩
       rfl
      ·replace hm := QM hq hm
       refine Qm rfl rfl ?_
       refine Qa rfl rfl rfl rfl (Qd rfl) ?_
       refine Qm rfl rfl ?_
       obtain ⟨r85, hr85, hm⟩ := Qv hm
       refine QG (c_impl_IsBody r51.1 r85 hr85) Try.call35 rfl rfl rfl rfl rfl ?_
       refine Qm rfl rfl ?_
       refine Qa rfl rfl rfl rfl (op_not rfl) ?_
       refine Qa rfl rfl rfl rfl (Qk rfl rfl) ?_
       refine Qa rfl rfl rfl rfl (Qd rfl) ?_
       refine Xb 7 (fun _ : Unit => ⟨[(5, .ptr 11 0 0), (6, .ptr 14 0 0), (7, .ow 15), (9, .ow 16), (11, .ow 17), (13, .ow 18), (95, .bool ((!r85) || (decide ((r39.Body.length : Int) < (r45.1.length : Int)))))], [(11, .box [.sl 2 (List.map Qq r39.Pre), .sl 8 (List.map QZ r39.Body), .sl 2 (List.map Qq r39.Post)]), (12, .arr ⟨false, true⟩ 1 2 (List.map Qf r41.Vars)), (13, .arr ⟨false, true⟩ 1 2 (List.map Qf r41.Cells)), (14, .box [.ow 12, .ow 13]), (15, .arr ⟨false, true⟩ 8 77 (List.map QZ r45.1)), (16, .arr ⟨false, true⟩ 8 77 (List.map QZ r51.1)), (17, .arr ⟨false, true⟩ 8 77 (List.map QZ r56.1)), (18, .arr ⟨false, true⟩ 8 77 (List.map QZ r61.1))]⟩) (fun _ => True) (fun _ _ => ?_) (fun hjj => ?_)
       ·refine Qa rfl rfl rfl rfl (Qd rfl) ?_
        refine Qy 96 rfl rfl rfl (fun hq => ?_) (fun hq => ?_)
        ·replace hm := QO hq hm
         refine Qh rfl rfl rfl rfl rfl rfl rfl ?_
         refine Qh rfl rfl rfl rfl rfl rfl rfl ?_
         refine Qh rfl rfl rfl rfl rfl rfl rfl ?_
         refine Qh rfl rfl rfl rfl rfl rfl rfl ?_
         refine Qa rfl rfl rfl rfl (Qp rfl rfl) ?_
         refine Qa rfl rfl rfl rfl (Qd rfl) ?_
         refine Qh rfl rfl rfl rfl rfl rfl rfl ?_
         refine Qh rfl rfl rfl rfl rfl rfl rfl ?_
         refine Qh rfl rfl rfl rfl rfl rfl rfl ?_
         refine Qh rfl rfl rfl rfl rfl rfl rfl ?_
         refine Qa rfl rfl rfl rfl (Qp rfl rfl) ?_
         refine Qe ?_
         refine T_cond_true rfl ?_
         refine Qn ?_
         refine Qc ?_
         refine Qa rfl rfl rfl rfl (Qb rfl) ?_
         refine Qe ?_
         refine Qo [4] [] rfl rfl rfl rfl (by rw [hF]; rfl) ?_
         refine QB ?_
         obtain rfl := Qw hm
         refine ⟨[_], [], ⟨rfl, trivial⟩, ?_, rfl, rfl, rfl, rfl⟩
         rfl
        ·replace hm := QM hq hm
         refine Qm rfl rfl ?_
         refine Qa rfl rfl rfl rfl (Qd rfl) ?_
         refine Qm rfl rfl ?_
         refine Qa rfl rfl rfl rfl (Qd rfl) ?_
         refine Qm rfl rfl ?_
         obtain ⟨r99, hr99, hm⟩ := Qv hm
         refine QG (c_laws_r8Bodies r56.1 r45.1 r99 hr99) Try.call36 rfl rfl rfl rfl rfl ?_
         refine Qm rfl rfl ?_
         refine Qa rfl rfl rfl rfl (op_not rfl) ?_
         refine Qa rfl rfl rfl rfl (Qk rfl rfl) ?_
         refine Qa rfl rfl rfl rfl (Qd rfl) ?_
         refine Qy 102 rfl rfl rfl (fun hq => ?_) (fun hq => ?_)
         ·replace hm := QO hq hm
          refine Qh rfl rfl rfl rfl rfl rfl rfl ?_
          refine Qh rfl rfl rfl rfl rfl rfl rfl ?_
          refine Qh rfl rfl rfl rfl rfl rfl rfl ?_
          refine Qh rfl rfl rfl rfl rfl rfl rfl ?_
          refine Qa rfl rfl rfl rfl (Qp rfl rfl) ?_
          refine Qe ?_
          refine T_cond_true rfl ?_
          refine Qn ?_
          refine Qc ?_
          refine Qa rfl rfl rfl rfl (Qb rfl) ?_
          refine Qe ?_
          refine Qo [4] [] rfl rfl rfl rfl (by rw [hF]; rfl) ?_
          refine QB ?_
          obtain rfl := Qw hm
          refine ⟨[_], [], ⟨rfl, trivial⟩, ?_, rfl, rfl, rfl, rfl⟩
          rfl
         ·replace hm := QM hq hm
          refine Qm rfl rfl ?_
          refine Qa rfl rfl rfl rfl (Qd rfl) ?_
          refine Qm rfl rfl ?_
          refine Qa rfl rfl rfl rfl (Qd rfl) ?_
          refine Qm rfl rfl ?_
          obtain ⟨r105, hr105, hm⟩ := Qv hm
          refine QG (c_laws_r8Bodies r61.1 r51.1 r105 hr105) Try.call36 rfl rfl rfl rfl rfl ?_
          refine Qm rfl rfl ?_
          refine Qa rfl rfl rfl rfl (op_not rfl) ?_
          refine Qa rfl rfl rfl rfl (Qk rfl rfl) ?_
          refine Qe ?_
          refine QI rfl (fun hq => ?_) (fun hq => ?_)
          ·replace hm := QO hq hm
           refine Qn ?_
           refine Qc ?_
           refine Qa rfl rfl rfl rfl (Qb rfl) ?_
           refine Qe ?_
           refine Qo [4] [] rfl rfl rfl rfl (by rw [hF]; rfl) ?_
           refine QB ?_
           obtain rfl := Qw hm
           refine ⟨[_], [], ⟨rfl, trivial⟩, ?_, rfl, rfl, rfl, rfl⟩
           rfl
          ·replace hm := QM hq hm
           refine QL ?_
           refine Qn ?_
           refine Qc ?_
           refine Qa rfl rfl rfl rfl (Qt ag27 sz27 rfl rfl rfl) ?_
           refine Qa rfl rfl rfl rfl (Qt ag31 sz31 rfl rfl rfl) ?_
           obtain ⟨r111, hr111, hm⟩ := Qv hm
           refine TL_callO [(1000, 19), (1001, 20), (1002, 21)] (c_impl_RunProgram r39 r41 (300 : Int) r111 hr111) Try.call13 rfl rfl rfl rfl rfl rfl rfl rfl rfl rfl rfl rfl rfl ?_
           refine Qa rfl rfl rfl rfl (Qd rfl) ?_
           refine Qa rfl rfl rfl rfl (QH rfl rfl) ?_
           refine Qa rfl rfl rfl rfl (QH rfl rfl) ?_
           refine Qa rfl rfl rfl rfl (QH rfl rfl) ?_
           refine Qa rfl rfl rfl rfl (QH rfl rfl) ?_
           refine Xk 22 z31 rfl rfl rfl rfl rfl rfl rfl ?_
           refine Qr sz31 rfl rfl rfl rfl rfl rfl rfl rfl rfl ?_
           refine Qa rfl rfl rfl rfl (Qb rfl) ?_
           refine Qa rfl rfl rfl rfl (Qb rfl) ?_
           refine Qa rfl rfl rfl rfl (Qb rfl) ?_
           refine Qe ?_
           refine Qn ?_
           refine Qc ?_
           refine Qa rfl rfl rfl rfl (Qt ag27 sz27 rfl rfl rfl) ?_
           refine Qa rfl rfl rfl rfl (Qt ag31 sz31 rfl rfl rfl) ?_
           obtain ⟨r119, hr119, hm⟩ := Qv hm
           refine QG (c_impl_StepsOf r39 r41 (300 : Int) r119 hr119) Try.call14 rfl rfl rfl rfl rfl ?_
           refine Qa rfl rfl rfl rfl (Qd rfl) ?_
           refine Qa rfl rfl rfl rfl (QH rfl rfl) ?_
           refine Qa rfl rfl rfl rfl (QH rfl rfl) ?_
           refine Qa rfl rfl rfl rfl (Qb rfl) ?_
           refine Qa rfl rfl rfl rfl (Qb rfl) ?_
           refine Qe ?_
           refine Qn ?_
           refine Qc ?_
           refine Qa rfl rfl rfl rfl (Qi fa27_0 rfl rfl) ?_
           refine Qa rfl rfl rfl rfl (Qj ag24 rfl rfl) ?_
           refine Qa rfl rfl rfl rfl (Qd rfl) ?_
           refine Qa rfl rfl rfl rfl (Qi fa27_2 rfl rfl) ?_
           refine Qa rfl rfl rfl rfl (Qj ag24 rfl rfl) ?_
           refine Qa rfl rfl rfl rfl (Xn pl27 z27 rfl rfl rfl rfl rfl) ?_
           refine Xk 23 z27 rfl rfl rfl rfl rfl rfl rfl ?_
           refine Qr sz27 rfl rfl rfl rfl rfl rfl rfl rfl rfl ?_
           refine Qe ?_
           refine Qn ?_
           refine Qc ?_
           refine Qa rfl rfl rfl rfl (Qi fa27_0 rfl rfl) ?_
           refine Qa rfl rfl rfl rfl (Qj ag24 rfl rfl) ?_
           refine Qa rfl rfl rfl rfl (Qd rfl) ?_
           refine Qa rfl rfl rfl rfl (Qi fa27_2 rfl rfl) ?_
           refine Qa rfl rfl rfl rfl (Qj ag24 rfl rfl) ?_
           refine Qa rfl rfl rfl rfl (Xn pl27 z27 rfl rfl rfl rfl rfl) ?_
           refine Xk 24 z27 rfl rfl rfl rfl rfl rfl rfl ?_
           refine Qr sz27 rfl rfl rfl rfl rfl rfl rfl rfl rfl ?_
           refine Qe ?_
           refine Qn ?_
           refine Qc ?_
           refine Qa rfl rfl rfl rfl (Qt ag27 sz27 rfl rfl rfl) ?_
           refine Qa rfl rfl rfl rfl (Qt ag31 sz31 rfl rfl rfl) ?_
           obtain ⟨r137, hr137, hm⟩ := Qv hm
           refine TL_callO [(1000, 25), (1001, 26), (1002, 27)] (c_impl_RunProgram (Program.mk r39.Pre r45.1 r39.Post) r41 (300 : Int) r137 hr137) Try.call13 rfl rfl rfl rfl rfl rfl rfl rfl rfl rfl rfl rfl rfl ?_
           refine Qa rfl rfl rfl rfl (Qd rfl) ?_
           refine Qa rfl rfl rfl rfl (QH rfl rfl) ?_
           refine Qa rfl rfl rfl rfl (QH rfl rfl) ?_
           refine Qa rfl rfl rfl rfl (QH rfl rfl) ?_
           refine Qa rfl rfl rfl rfl (QH rfl rfl) ?_
           refine Xk 28 z31 rfl rfl rfl rfl rfl rfl rfl ?_
           refine Qr sz31 rfl rfl rfl rfl rfl rfl rfl rfl rfl ?_
           refine Qa rfl rfl rfl rfl (Qb rfl) ?_
           refine Qa rfl rfl rfl rfl (Qb rfl) ?_
           refine Qa rfl rfl rfl rfl (Qb rfl) ?_
           refine Qe ?_
           refine Qn ?_
           refine Qc ?_
           refine Qa rfl rfl rfl rfl (Qt ag27 sz27 rfl rfl rfl) ?_
           refine Qa rfl rfl rfl rfl (Qt ag31 sz31 rfl rfl rfl) ?_
           obtain ⟨r145, hr145, hm⟩ := Qv hm
           refine TL_callO [(1000, 29), (1001, 30), (1002, 31)] (c_impl_RunProgram (Program.mk r39.Pre r51.1 r39.Post) r41 (300 : Int) r145 hr145) Try.call13 rfl rfl rfl rfl rfl rfl rfl rfl rfl rfl rfl rfl rfl ?_
           refine Qa rfl rfl rfl rfl (Qd rfl) ?_
           refine Qa rfl rfl rfl rfl (QH rfl rfl) ?_
           refine Qa rfl rfl rfl rfl (QH rfl rfl) ?_
           refine Qa rfl rfl rfl rfl (QH rfl rfl) ?_
           refine Qa rfl rfl rfl rfl (QH rfl rfl) ?_
           refine Xk 32 z31 rfl rfl rfl rfl rfl rfl rfl ?_
           refine Qr sz31 rfl rfl rfl rfl rfl rfl rfl rfl rfl ?_
           refine Qa rfl rfl rfl rfl (Qb rfl) ?_
           refine Qa rfl rfl rfl rfl (Qb rfl) ?_
           refine Qa rfl rfl rfl rfl (Qb rfl) ?_
           refine Qe ?_
           refine Qn ?_
           refine Qc ?_
           refine Qa rfl rfl rfl rfl (Qt ag27 sz27 rfl rfl rfl) ?_
           refine Qa rfl rfl rfl rfl (Qt ag31 sz31 rfl rfl rfl) ?_
           obtain ⟨r153, hr153, hm⟩ := Qv hm
           refine QG (c_impl_StepsOf (Program.mk r39.Pre r45.1 r39.Post) r41 (300 : Int) r153 hr153) Try.call14 rfl rfl rfl rfl rfl ?_
           refine Qa rfl rfl rfl rfl (Qd rfl) ?_
           refine Qa rfl rfl rfl rfl (QH rfl rfl) ?_
           refine Qa rfl rfl rfl rfl (QH rfl rfl) ?_
           refine Qa rfl rfl rfl rfl (Qb rfl) ?_
           refine Qa rfl rfl rfl rfl (Qb rfl) ?_
           refine Qe ?_
           refine Qn ?_
           refine Qc ?_
           refine Qa rfl rfl rfl rfl (Qt ag27 sz27 rfl rfl rfl) ?_
           refine Qa rfl rfl rfl rfl (Qt ag31 sz31 rfl rfl rfl) ?_
           obtain ⟨r159, hr159, hm⟩ := Qv hm
           refine QG (c_impl_StepsOf (Program.mk r39.Pre r51.1 r39.Post) r41 (300 : Int) r159 hr159) Try.call14 rfl rfl rfl rfl rfl ?_
           refine Qa rfl rfl rfl rfl (Qd rfl) ?_
           refine Qa rfl rfl rfl rfl (QH rfl rfl) ?_
           refine Qa rfl rfl rfl rfl (QH rfl rfl) ?_
           refine Qa rfl rfl rfl rfl (Qb rfl) ?_
           refine Qa rfl rfl rfl rfl (Qb rfl) ?_
           refine Qe ?_
           refine Qn ?_
           refine Qn ?_
           refine Qc ?_
           refine Qa rfl rfl rfl rfl (Qd rfl) ?_
           refine Qa rfl rfl rfl rfl (op_not rfl) ?_
           refine Qa rfl rfl rfl rfl (Qd rfl) ?_
           refine Xb 3 (fun _ : Unit => ⟨[(15, .ptr 22 0 0), (16, .ow 21), (17, .int .i64 r111.2.2.1), (19, .int .i64 r119.1), (23, .ptr 28 0 0), (24, .ow 27), (25, .int .i64 r137.2.2.1), (26, .bool r137.2.2.2), (27, .ptr 32 0 0), (28, .ow 31), (29, .int .i64 r145.2.2.1), (30, .bool r145.2.2.2), (31, .int .i64 r153.1), (32, .bool r153.2), (33, .int .i64 r159.1), (34, .bool r159.2), (167, .bool ((!r111.2.2.2) || (!r119.2)))], [(19, .arr ⟨false, true⟩ 1 2 (List.map Qf r111.1.Vars)), (20, .arr ⟨false, true⟩ 1 2 (List.map Qf r111.1.Cells)), (21, .arr ⟨false, true⟩ 1 2 (List.map Qf r111.2.1)), (22, .box [.ow 19, .ow 20]), (25, .arr ⟨false, true⟩ 1 2 (List.map Qf r137.1.Vars)), (26, .arr ⟨false, true⟩ 1 2 (List.map Qf r137.1.Cells)), (27, .arr ⟨false, true⟩ 1 2 (List.map Qf r137.2.1)), (28, .box [.ow 25, .ow 26]), (29, .arr ⟨false, true⟩ 1 2 (List.map Qf r145.1.Vars)), (30, .arr ⟨false, true⟩ 1 2 (List.map Qf r145.1.Cells)), (31, .arr ⟨false, true⟩ 1 2 (List.map Qf r145.2.1)), (32, .box [.ow 29, .ow 30])]⟩) (fun _ => True) (fun _ _ => ?_) (fun hjj => ?_)
           ·refine Qa rfl rfl rfl rfl (Qd rfl) ?_
            refine Xb 3 (fun _ : Unit => ⟨[(15, .ptr 22 0 0), (16, .ow 21), (17, .int .i64 r111.2.2.1), (19, .int .i64 r119.1), (23, .ptr 28 0 0), (24, .ow 27), (25, .int .i64 r137.2.2.1), (27, .ptr 32 0 0), (28, .ow 31), (29, .int .i64 r145.2.2.1), (30, .bool r145.2.2.2), (31, .int .i64 r153.1), (32, .bool r153.2), (33, .int .i64 r159.1), (34, .bool r159.2), (171, .bool (((!r111.2.2.2) || (!r119.2)) || (!r137.2.2.2)))], [(19, .arr ⟨false, true⟩ 1 2 (List.map Qf r111.1.Vars)), (20, .arr ⟨false, true⟩ 1 2 (List.map Qf r111.1.Cells)), (21, .arr ⟨false, true⟩ 1 2 (List.map Qf r111.2.1)), (22, .box [.ow 19, .ow 20]), (25, .arr ⟨false, true⟩ 1 2 (List.map Qf r137.1.Vars)), (26, .arr ⟨false, true⟩ 1 2 (List.map Qf r137.1.Cells)), (27, .arr ⟨false, true⟩ 1 2 (List.map Qf r137.2.1)), (28, .box [.ow 25, .ow 26]), (29, .arr ⟨false, true⟩ 1 2 (List.map Qf r145.1.Vars)), (30, .arr ⟨false, true⟩ 1 2 (List.map Qf r145.1.Cells)), (31, .arr ⟨false, true⟩ 1 2 (List.map Qf r145.2.1)), (32, .box [.ow 29, .ow 30])]⟩) (fun _ => True) (fun _ _ => ?_) (fun hjj => ?_)
            ·refine Qa rfl rfl rfl rfl (Qd rfl) ?_
             refine Xb 3 (fun _ : Unit => ⟨[(15, .ptr 22 0 0), (16, .ow 21), (17, .int .i64 r111.2.2.1), (19, .int .i64 r119.1), (23, .ptr 28 0 0), (24, .ow 27), (25, .int .i64 r137.2.2.1), (27, .ptr 32 0 0), (28, .ow 31), (29, .int .i64 r145.2.2.1), (31, .int .i64 r153.1), (32, .bool r153.2), (33, .int .i64 r159.1), (34, .bool r159.2), (175, .bool ((((!r111.2.2.2) || (!r119.2)) || (!r137.2.2.2)) || (!r145.2.2.2)))], [(19, .arr ⟨false, true⟩ 1 2 (List.map Qf r111.1.Vars)), (20, .arr ⟨false, true⟩ 1 2 (List.map Qf r111.1.Cells)), (21, .arr ⟨false, true⟩ 1 2 (List.map Qf r111.2.1)), (22, .box [.ow 19, .ow 20]), (25, .arr ⟨false, true⟩ 1 2 (List.map Qf r137.1.Vars)), (26, .arr ⟨false, true⟩ 1 2 (List.map Qf r137.1.Cells)), (27, .arr ⟨false, true⟩ 1 2 (List.map Qf r137.2.1)), (28, .box [.ow 25, .ow 26]), (29, .arr ⟨false, true⟩ 1 2 (List.map Qf r145.1.Vars)), (30, .arr ⟨false, true⟩ 1 2 (List.map Qf r145.1.Cells)), (31, .arr ⟨false, true⟩ 1 2 (List.map Qf r145.2.1)), (32, .box [.ow 29, .ow 30])]⟩) (fun _ => True) (fun _ _ => ?_) (fun hjj => ?_)
             ·refine Qa rfl rfl rfl rfl (Qd rfl) ?_
              refine Xb 3 (fun _ : Unit => ⟨[(15, .ptr 22 0 0), (16, .ow 21), (17, .int .i64 r111.2.2.1), (19, .int .i64 r119.1), (23, .ptr 28 0 0), (24, .ow 27), (25, .int .i64 r137.2.2.1), (27, .ptr 32 0 0), (28, .ow 31), (29, .int .i64 r145.2.2.1), (31, .int .i64 r153.1), (33, .int .i64 r159.1), (34, .bool r159.2), (179, .bool (((((!r111.2.2.2) || (!r119.2)) || (!r137.2.2.2)) || (!r145.2.2.2)) || (!r153.2)))], [(19, .arr ⟨false, true⟩ 1 2 (List.map Qf r111.1.Vars)), (20, .arr ⟨false, true⟩ 1 2 (List.map Qf r111.1.Cells)), (21, .arr ⟨false, true⟩ 1 2 (List.map Qf r111.2.1)), (22, .box [.ow 19, .ow 20]), (25, .arr ⟨false, true⟩ 1 2 (List.map Qf r137.1.Vars)), (26, .arr ⟨false, true⟩ 1 2 (List.map Qf r137.1.Cells)), (27, .arr ⟨false, true⟩ 1 2 (List.map Qf r137.2.1)), (28, .box [.ow 25, .ow 26]), (29, .arr ⟨false, true⟩ 1 2 (List.map Qf r145.1.Vars)), (30, .arr ⟨false, true⟩ 1 2 (List.map Qf r145.1.Cells)), (31, .arr ⟨false, true⟩ 1 2 (List.map Qf r145.2.1)), (32, .box [.ow 29, .ow 30])]⟩) (fun _ => True) (fun _ _ => ?_) (fun hjj => ?_)
              ·refine Qa rfl rfl rfl rfl (Qd rfl) ?_
               refine Xb 3 (fun _ : Unit => ⟨[(15, .ptr 22 0 0), (16, .ow 21), (17, .int .i64 r111.2.2.1), (19, .int .i64 r119.1), (23, .ptr 28 0 0), (24, .ow 27), (25, .int .i64 r137.2.2.1), (27, .ptr 32 0 0), (28, .ow 31), (29, .int .i64 r145.2.2.1), (31, .int .i64 r153.1), (33, .int .i64 r159.1), (183, .bool ((((((!r111.2.2.2) || (!r119.2)) || (!r137.2.2.2)) || (!r145.2.2.2)) || (!r153.2)) || (!r159.2)))], [(19, .arr ⟨false, true⟩ 1 2 (List.map Qf r111.1.Vars)), (20, .arr ⟨false, true⟩ 1 2 (List.map Qf r111.1.Cells)), (21, .arr ⟨false, true⟩ 1 2 (List.map Qf r111.2.1)), (22, .box [.ow 19, .ow 20]), (25, .arr ⟨false, true⟩ 1 2 (List.map Qf r137.1.Vars)), (26, .arr ⟨false, true⟩ 1 2 (List.map Qf r137.1.Cells)), (27, .arr ⟨false, true⟩ 1 2 (List.map Qf r137.2.1)), (28, .box [.ow 25, .ow 26]), (29, .arr ⟨false, true⟩ 1 2 (List.map Qf r145.1.Vars)), (30, .arr ⟨false, true⟩ 1 2 (List.map Qf r145.1.Cells)), (31, .arr ⟨false, true⟩ 1 2 (List.map Qf r145.2.1)), (32, .box [.ow 29, .ow 30])]⟩) (fun _ => True) (fun _ _ => ?_) (fun hjj => ?_)
               ·refine Qa rfl rfl rfl rfl (Qd rfl) ?_
                refine Xb 4 (fun _ : Unit => ⟨[(15, .ptr 22 0 0), (16, .ow 21), (17, .int .i64 r111.2.2.1), (19, .int .i64 r119.1), (23, .ptr 28 0 0), (24, .ow 27), (25, .int .i64 r137.2.2.1), (27, .ptr 32 0 0), (28, .ow 31), (31, .int .i64 r153.1), (33, .int .i64 r159.1), (188, .bool (((((((!r111.2.2.2) || (!r119.2)) || (!r137.2.2.2)) || (!r145.2.2.2)) || (!r153.2)) || (!r159.2)) || (!decide (r145.2.2.1 = r111.2.2.1))))], [(19, .arr ⟨false, true⟩ 1 2 (List.map Qf r111.1.Vars)), (20, .arr ⟨false, true⟩ 1 2 (List.map Qf r111.1.Cells)), (21, .arr ⟨false, true⟩ 1 2 (List.map Qf r111.2.1)), (22, .box [.ow 19, .ow 20]), (25, .arr ⟨false, true⟩ 1 2 (List.map Qf r137.1.Vars)), (26, .arr ⟨false, true⟩ 1 2 (List.map Qf r137.1.Cells)), (27, .arr ⟨false, true⟩ 1 2 (List.map Qf r137.2.1)), (28, .box [.ow 25, .ow 26]), (29, .arr ⟨false, true⟩ 1 2 (List.map Qf r145.1.Vars)), (30, .arr ⟨false, true⟩ 1 2 (List.map Qf r145.1.Cells)), (31, .arr ⟨false, true⟩ 1 2 (List.map Qf r145.2.1)), (32, .box [.ow 29, .ow 30])]⟩) (fun _ => True) (fun _ _ => ?_) (fun hjj => ?_)
                ·refine Qa rfl rfl rfl rfl (Qd rfl) ?_
                 refine Qy 189 rfl rfl rfl (fun hq => ?_) (fun hq => ?_)
                 ·replace hm := QO hq hm
                  refine Qh rfl rfl rfl rfl rfl rfl rfl ?_
                  refine Qh rfl rfl rfl rfl rfl rfl rfl ?_
                  refine Qh rfl rfl rfl rfl rfl rfl rfl ?_
                  refine Qh rfl rfl rfl rfl rfl rfl rfl ?_
                  refine Qa rfl rfl rfl rfl (Qp rfl rfl) ?_
                  refine Qa rfl rfl rfl rfl (Qd rfl) ?_
                  refine Qh rfl rfl rfl rfl rfl rfl rfl ?_
                  refine Qh rfl rfl rfl rfl rfl rfl rfl ?_
                  refine Qh rfl rfl rfl rfl rfl rfl rfl ?_
                  refine Qh rfl rfl rfl rfl rfl rfl rfl ?_
                  refine Qa rfl rfl rfl rfl (Qp rfl rfl) ?_
                  refine Qa rfl rfl rfl rfl (Qd rfl) ?_
                  refine Qh rfl rfl rfl rfl rfl rfl rfl ?_
                  refine Qh rfl rfl rfl rfl rfl rfl rfl ?_
                  refine Qh rfl rfl rfl rfl rfl rfl rfl ?_
                  refine Qa rfl rfl rfl rfl (Qp rfl rfl) ?_
                  refine Qe ?_
                  refine T_cond_true rfl ?_
                  refine Qn ?_
                  refine Qc ?_
                  refine Qa rfl rfl rfl rfl (Qb rfl) ?_
                  refine Qe ?_
                  refine Qo [4] [] rfl rfl rfl rfl (by rw [hF]; rfl) ?_
                  refine QB ?_
                  obtain rfl := Qw hm
                  refine ⟨[_], [], ⟨rfl, trivial⟩, ?_, rfl, rfl, rfl, rfl⟩
                  rfl
                 ·replace hm := QM hq hm
                  refine Qm rfl rfl ?_
                  refine Qa rfl rfl rfl rfl (Qd rfl) ?_
                  refine Qm rfl rfl ?_
                  refine Qa rfl rfl rfl rfl (Qd rfl) ?_
                  refine Qm rfl rfl ?_
                  obtain ⟨r192, hr192, hm⟩ := Qv hm
                  refine QG (c_laws_r8Same r145.2.1 r111.2.1 r192 hr192) Try.call16 rfl rfl rfl rfl rfl ?_
                  refine Qm rfl rfl ?_
                  refine Qa rfl rfl rfl rfl (op_not rfl) ?_
                  refine Qa rfl rfl rfl rfl (Qk rfl rfl) ?_
                  refine Qa rfl rfl rfl rfl (Qd rfl) ?_
                  refine Qy 195 rfl rfl rfl (fun hq => ?_) (fun hq => ?_)
                  ·replace hm := QO hq hm
                   refine Qh rfl rfl rfl rfl rfl rfl rfl ?_
                   refine Qh rfl rfl rfl rfl rfl rfl rfl ?_
                   refine Qh rfl rfl rfl rfl rfl rfl rfl ?_
                   refine Qh rfl rfl rfl rfl rfl rfl rfl ?_
                   refine Qa rfl rfl rfl rfl (Qp rfl rfl) ?_
                   refine Qa rfl rfl rfl rfl (Qd rfl) ?_
                   refine Qh rfl rfl rfl rfl rfl rfl rfl ?_
                   refine Qh rfl rfl rfl rfl rfl rfl rfl ?_
                   refine Qh rfl rfl rfl rfl rfl rfl rfl ?_
                   refine Qa rfl rfl rfl rfl (Qp rfl rfl) ?_
                   refine Qe ?_
                   refine T_cond_true rfl ?_
                   refine Qn ?_
                   refine Qc ?_
                   refine Qa rfl rfl rfl rfl (Qb rfl) ?_
                   refine Qe ?_
                   refine Qo [4] [] rfl rfl rfl rfl (by rw [hF]; rfl) ?_
                   refine QB ?_
                   obtain rfl := Qw hm
                   refine ⟨[_], [], ⟨rfl, trivial⟩, ?_, rfl, rfl, rfl, rfl⟩
                   rfl
                  ·replace hm := QM hq hm
                   refine Qm rfl rfl ?_
                   refine Qa rfl rfl rfl rfl (Qt ag31 sz31 rfl rfl rfl) ?_
                   refine Qm rfl rfl ?_
                   refine Qa rfl rfl rfl rfl (Qt ag31 sz31 rfl rfl rfl) ?_
                   refine Qm rfl rfl ?_
                   obtain ⟨r198, hr198, hm⟩ := Qv hm
                   refine QG (c_laws_r8States r145.1 r111.1 r198 hr198) Try.call17 rfl rfl rfl rfl rfl ?_
                   refine Qm rfl rfl ?_
                   refine Qa rfl rfl rfl rfl (op_not rfl) ?_
                   refine Qa rfl rfl rfl rfl (Qk rfl rfl) ?_
                   refine Qa rfl rfl rfl rfl (Qd rfl) ?_
                   refine Xb 4 (fun _ : Unit => ⟨[(15, .ptr 22 0 0), (16, .ow 21), (17, .int .i64 r111.2.2.1), (19, .int .i64 r119.1), (23, .ptr 28 0 0), (24, .ow 27), (25, .int .i64 r137.2.2.1), (31, .int .i64 r153.1), (205, .bool ((!r198) || (!decide (r159.1 = r119.1))))], [(19, .arr ⟨false, true⟩ 1 2 (List.map Qf r111.1.Vars)), (20, .arr ⟨false, true⟩ 1 2 (List.map Qf r111.1.Cells)), (21, .arr ⟨false, true⟩ 1 2 (List.map Qf r111.2.1)), (22, .box [.ow 19, .ow 20]), (25, .arr ⟨false, true⟩ 1 2 (List.map Qf r137.1.Vars)), (26, .arr ⟨false, true⟩ 1 2 (List.map Qf r137.1.Cells)), (27, .arr ⟨false, true⟩ 1 2 (List.map Qf r137.2.1)), (28, .box [.ow 25, .ow 26])]⟩) (fun _ => True) (fun _ _ => ?_) (fun hjj => ?_)
                   ·refine Qe ?_
                    refine QI rfl (fun hq => ?_) (fun hq => ?_)
                    ·replace hm := QO hq hm
                     refine Qn ?_
                     refine Qc ?_
                     refine Qa rfl rfl rfl rfl (Qb rfl) ?_
                     refine Qe ?_
                     refine Qo [4] [] rfl rfl rfl rfl (by rw [hF]; rfl) ?_
                     refine QB ?_
                     obtain rfl := Qw hm
                     refine ⟨[_], [], ⟨rfl, trivial⟩, ?_, rfl, rfl, rfl, rfl⟩
                     rfl
                    ·replace hm := QM hq hm
                     refine QL ?_
                     refine Qn ?_
                     refine Qc ?_
                     refine Qa rfl rfl rfl rfl (Qd rfl) ?_
                     refine Qa rfl rfl rfl rfl (Xq rfl rfl) ?_
                     refine Qa rfl rfl rfl rfl (Qd rfl) ?_
                     refine Qy 208 rfl rfl rfl (fun hq => ?_) (fun hq => ?_)
                     ·replace hm := QO hq hm
                      refine Qh rfl rfl rfl rfl rfl rfl rfl ?_
                      refine Qh rfl rfl rfl rfl rfl rfl rfl ?_
                      refine Qh rfl rfl rfl rfl rfl rfl rfl ?_
                      refine Qh rfl rfl rfl rfl rfl rfl rfl ?_
                      refine Xl rfl rfl rfl rfl rfl rfl ?_
                      refine Xl rfl rfl rfl rfl rfl rfl ?_
                      refine Xl rfl rfl rfl rfl rfl rfl ?_
                      refine Qh rfl rfl rfl rfl rfl rfl rfl ?_
                      refine Qh rfl rfl rfl rfl rfl rfl rfl ?_
                      refine Xl rfl rfl rfl rfl rfl rfl ?_
                      refine Xl rfl rfl rfl rfl rfl rfl ?_
                      refine Xl rfl rfl rfl rfl rfl rfl ?_
                      refine Qh rfl rfl rfl rfl rfl rfl rfl ?_
                      refine Qh rfl rfl rfl rfl rfl rfl rfl ?_
                      refine Xl rfl rfl rfl rfl rfl rfl ?_
                      refine Xl rfl rfl rfl rfl rfl rfl ?_
                      refine Xl rfl rfl rfl rfl rfl rfl ?_
                      refine Qh rfl rfl rfl rfl rfl rfl rfl ?_
                      refine Qa rfl rfl rfl rfl (Qp rfl rfl) ?_
                      refine Qa rfl rfl rfl rfl (Qb rfl) ?_
                      refine Qe ?_
                      refine Qo [4] [] rfl rfl rfl rfl (by rw [hF]; rfl) ?_
                      refine QB ?_
                      obtain rfl := Qw hm
                      refine ⟨[_], [], ⟨rfl, trivial⟩, ?_, rfl, rfl, rfl, rfl⟩
                      rfl
                     ·replace hm := QM hq hm
                      refine Qm rfl rfl ?_
                      refine Qa rfl rfl rfl rfl (Qd rfl) ?_
                      refine Qm rfl rfl ?_
                      refine Qa rfl rfl rfl rfl (Qd rfl) ?_
                      refine Qm rfl rfl ?_
                      refine Qa rfl rfl rfl rfl (Xq rfl rfl) ?_
                      refine Qm rfl rfl ?_
                      refine Qa rfl rfl rfl rfl (Qd rfl) ?_
                      refine Qy 212 rfl rfl rfl (fun hq => ?_) (fun hq => ?_)
                      ·replace hm := QO hq hm
                       refine Qm rfl rfl ?_
                       refine Qa rfl rfl rfl rfl (Qd rfl) ?_
                       refine Qm rfl rfl ?_
                       refine Qa rfl rfl rfl rfl (Qd rfl) ?_
                       refine Qm rfl rfl ?_
                       obtain ⟨r215, hr215, hm⟩ := Qv hm
                       refine QG (c_laws_r8Same r137.2.1 r111.2.1 r215 hr215) Try.call16 rfl rfl rfl rfl rfl ?_
                       refine Qm rfl rfl ?_
                       refine Qa rfl rfl rfl rfl (Qp rfl rfl) ?_
                       refine Qm rfl rfl ?_
                       refine Qa rfl rfl rfl rfl (Qd rfl) ?_
                       refine Qy 217 rfl rfl rfl (fun hq => ?_) (fun hq => ?_)
                       ·replace hm := QO hq hm
                        refine Qm rfl rfl ?_
                        refine Qa rfl rfl rfl rfl (Qt ag31 sz31 rfl rfl rfl) ?_
                        refine Qm rfl rfl ?_
                        refine Qa rfl rfl rfl rfl (Qt ag31 sz31 rfl rfl rfl) ?_
                        refine Qm rfl rfl ?_
                        obtain ⟨r220, hr220, hm⟩ := Qv hm
                        refine QG (c_laws_r8States r137.1 r111.1 r220 hr220) Try.call17 rfl rfl rfl rfl rfl ?_
                        refine Qm rfl rfl ?_
                        refine Qa rfl rfl rfl rfl (Qp rfl rfl) ?_
                        refine Qm rfl rfl ?_
                        refine Qa rfl rfl rfl rfl (Qd rfl) ?_
                        refine Qy 222 rfl rfl rfl (fun hq => ?_) (fun hq => ?_)
                        ·replace hm := QO hq hm
                         refine Qm rfl rfl ?_
                         refine Qa rfl rfl rfl rfl (Qd rfl) ?_
                         refine Qm rfl rfl ?_
                         refine Qa rfl rfl rfl rfl (Qd rfl) ?_
                         refine Qm rfl rfl ?_
                         refine Qa rfl rfl rfl rfl (op_leq rfl rfl) ?_
                         refine Qm rfl rfl ?_
                         refine Qa rfl rfl rfl rfl (Qp rfl rfl) ?_
                         refine Qa rfl rfl rfl rfl (Qk rfl rfl) ?_
                         refine Qa rfl rfl rfl rfl (Qb rfl) ?_
                         refine Qe ?_
                         refine Qo [4] [] rfl rfl rfl rfl (by rw [hF]; rfl) ?_
                         refine QB ?_
                         obtain rfl := Qw hm
                         refine ⟨[_], [], ⟨rfl, trivial⟩, ?_, rfl, rfl, rfl, rfl⟩
                         rfl
                        ·replace hm := QM hq hm
                         refine Qh rfl rfl rfl rfl rfl rfl rfl ?_
                         refine Qh rfl rfl rfl rfl rfl rfl rfl ?_
                         refine Qh rfl rfl rfl rfl rfl rfl rfl ?_
                         refine Qm rfl rfl ?_
                         refine Qa rfl rfl rfl rfl (Qk rfl rfl) ?_
                         refine Qa rfl rfl rfl rfl (Qk rfl rfl) ?_
                         refine Qa rfl rfl rfl rfl (Qb rfl) ?_
                         refine Qe ?_
                         refine Qo [4] [] rfl rfl rfl rfl (by rw [hF]; rfl) ?_
                         refine QB ?_
                         obtain rfl := Qw hm
                         refine ⟨[_], [], ⟨rfl, trivial⟩, ?_, rfl, rfl, rfl, rfl⟩
                         rfl
                       ·replace hm := QM hq hm
                        refine Qh rfl rfl rfl rfl rfl rfl rfl ?_
                        refine Qh rfl rfl rfl rfl rfl rfl rfl ?_
                        refine Qh rfl rfl rfl rfl rfl rfl rfl ?_
                        refine Qm rfl rfl ?_
                        refine Qa rfl rfl rfl rfl (Qk rfl rfl) ?_
                        refine Qm rfl rfl ?_
                        refine Qa rfl rfl rfl rfl (Qd rfl) ?_
                        refine Qh rfl rfl rfl rfl rfl rfl rfl ?_
                        refine Qh rfl rfl rfl rfl rfl rfl rfl ?_
                        refine Qh rfl rfl rfl rfl rfl rfl rfl ?_
                        refine Qm rfl rfl ?_
                        refine Qa rfl rfl rfl rfl (Qk rfl rfl) ?_
                        refine Qa rfl rfl rfl rfl (Qk rfl rfl) ?_
                        refine Qa rfl rfl rfl rfl (Qb rfl) ?_
                        refine Qe ?_
                        refine Qo [4] [] rfl rfl rfl rfl (by rw [hF]; rfl) ?_
                        refine QB ?_
                        obtain rfl := Qw hm
                        refine ⟨[_], [], ⟨rfl, trivial⟩, ?_, rfl, rfl, rfl, rfl⟩
                        rfl
                      ·replace hm := QM hq hm
                       refine Qh rfl rfl rfl rfl rfl rfl rfl ?_
                       refine Qh rfl rfl rfl rfl rfl rfl rfl ?_
                       refine Qh rfl rfl rfl rfl rfl rfl rfl ?_
                       refine Qm rfl rfl ?_
                       refine Qa rfl rfl rfl rfl (Qk rfl rfl) ?_
                       refine Qm rfl rfl ?_
                       refine Qa rfl rfl rfl rfl (Qd rfl) ?_
                       refine Qh rfl rfl rfl rfl rfl rfl rfl ?_
                       refine Qh rfl rfl rfl rfl rfl rfl rfl ?_
                       refine Qh rfl rfl rfl rfl rfl rfl rfl ?_
                       refine Qm rfl rfl ?_
                       refine Qa rfl rfl rfl rfl (Qk rfl rfl) ?_
                       refine Qm rfl rfl ?_
                       refine Qa rfl rfl rfl rfl (Qd rfl) ?_
                       refine Qh rfl rfl rfl rfl rfl rfl rfl ?_
                       refine Qh rfl rfl rfl rfl rfl rfl rfl ?_
                       refine Qh rfl rfl rfl rfl rfl rfl rfl ?_
                       refine Qm rfl rfl ?_
                       refine Qa rfl rfl rfl rfl (Qk rfl rfl) ?_
                       refine Qa rfl rfl rfl rfl (Qk rfl rfl) ?_
                       refine Qa rfl rfl rfl rfl (Qb rfl) ?_
                       refine Qe ?_
                       refine Qo [4] [] rfl rfl rfl rfl (by rw [hF]; rfl) ?_
                       refine QB ?_
                       obtain rfl := Qw hm
                       refine ⟨[_], [], ⟨rfl, trivial⟩, ?_, rfl, rfl, rfl, rfl⟩
                       rfl
                   ·refine Qy 201 rfl rfl rfl (fun hq => ?_) (fun hq => ?_)
                    ·refine Qh rfl rfl rfl rfl rfl rfl rfl ?_
                     refine Qh rfl rfl rfl rfl rfl rfl rfl ?_
                     refine Qh rfl rfl rfl rfl rfl rfl rfl ?_
                     refine Qa rfl rfl rfl rfl (Qp rfl rfl) ?_
                     refine Qx [15, 16, 17, 19, 23, 24, 25, 31, 205] [19, 20, 21, 22, 25, 26, 27, 28] rfl rfl rfl rfl (by rw [hF]; rfl) ?_
                     exact QA _ (by first | (rw [hq, Bool.true_or]; done) | (rw [hq]; rfl)) (hjj () trivial)
                    ·refine Qm rfl rfl ?_
                     refine Qa rfl rfl rfl rfl (Qd rfl) ?_
                     refine Qm rfl rfl ?_
                     refine Qa rfl rfl rfl rfl (Qd rfl) ?_
                     refine Qm rfl rfl ?_
                     refine Qa rfl rfl rfl rfl (op_neq rfl rfl) ?_
                     refine Qa rfl rfl rfl rfl (Qk rfl rfl) ?_
                     refine Qx [15, 16, 17, 19, 23, 24, 25, 31, 205] [19, 20, 21, 22, 25, 26, 27, 28] rfl rfl rfl rfl (by rw [hF]; rfl) ?_
                     exact QA _ (by first | (rw [hq, Bool.false_or]; done) | (rw [hq]; rfl)) (hjj () trivial)
                ·refine Qy 184 rfl rfl rfl (fun hq => ?_) (fun hq => ?_)
                 ·refine Qh rfl rfl rfl rfl rfl rfl rfl ?_
                  refine Qh rfl rfl rfl rfl rfl rfl rfl ?_
                  refine Qh rfl rfl rfl rfl rfl rfl rfl ?_
                  refine Qa rfl rfl rfl rfl (Qp rfl rfl) ?_
                  refine Qx [15, 16, 17, 19, 23, 24, 25, 27, 28, 31, 33, 188] [19, 20, 21, 22, 25, 26, 27, 28, 29, 30, 31, 32] rfl rfl rfl rfl (by rw [hF]; rfl) ?_
                  exact QA _ (by first | (rw [hq, Bool.true_or]; done) | (rw [hq]; rfl)) (hjj () trivial)
                 ·refine Qm rfl rfl ?_
                  refine Qa rfl rfl rfl rfl (Qd rfl) ?_
                  refine Qm rfl rfl ?_
                  refine Qa rfl rfl rfl rfl (Qd rfl) ?_
                  refine Qm rfl rfl ?_
                  refine Qa rfl rfl rfl rfl (op_neq rfl rfl) ?_
                  refine Qa rfl rfl rfl rfl (Qk rfl rfl) ?_
                  refine Qx [15, 16, 17, 19, 23, 24, 25, 27, 28, 31, 33, 188] [19, 20, 21, 22, 25, 26, 27, 28, 29, 30, 31, 32] rfl rfl rfl rfl (by rw [hF]; rfl) ?_
                  exact QA _ (by first | (rw [hq, Bool.false_or]; done) | (rw [hq]; rfl)) (hjj () trivial)
               ·refine Qy 180 rfl rfl rfl (fun hq => ?_) (fun hq => ?_)
                ·refine Qh rfl rfl rfl rfl rfl rfl rfl ?_
                 refine Qh rfl rfl rfl rfl rfl rfl rfl ?_
                 refine Qa rfl rfl rfl rfl (Qp rfl rfl) ?_
                 refine Qx [15, 16, 17, 19, 23, 24, 25, 27, 28, 29, 31, 33, 183] [19, 20, 21, 22, 25, 26, 27, 28, 29, 30, 31, 32] rfl rfl rfl rfl (by rw [hF]; rfl) ?_
                 exact QA _ (by first | (rw [hq, Bool.true_or]; done) | (rw [hq]; rfl)) (hjj () trivial)
                ·refine Qm rfl rfl ?_
                 refine Qa rfl rfl rfl rfl (Qd rfl) ?_
                 refine Qm rfl rfl ?_
                 refine Qa rfl rfl rfl rfl (op_not rfl) ?_
                 refine Qa rfl rfl rfl rfl (Qk rfl rfl) ?_
                 refine Qx [15, 16, 17, 19, 23, 24, 25, 27, 28, 29, 31, 33, 183] [19, 20, 21, 22, 25, 26, 27, 28, 29, 30, 31, 32] rfl rfl rfl rfl (by rw [hF]; rfl) ?_
                 exact QA _ (by first | (rw [hq, Bool.false_or]; done) | (rw [hq]; rfl)) (hjj () trivial)
              ·refine Qy 176 rfl rfl rfl (fun hq => ?_) (fun hq => ?_)
               ·refine Qh rfl rfl rfl rfl rfl rfl rfl ?_
                refine Qh rfl rfl rfl rfl rfl rfl rfl ?_
                refine Qa rfl rfl rfl rfl (Qp rfl rfl) ?_
                refine Qx [15, 16, 17, 19, 23, 24, 25, 27, 28, 29, 31, 33, 34, 179] [19, 20, 21, 22, 25, 26, 27, 28, 29, 30, 31, 32] rfl rfl rfl rfl (by rw [hF]; rfl) ?_
                exact QA _ (by first | (rw [hq, Bool.true_or]; done) | (rw [hq]; rfl)) (hjj () trivial)
               ·refine Qm rfl rfl ?_
                refine Qa rfl rfl rfl rfl (Qd rfl) ?_
                refine Qm rfl rfl ?_
                refine Qa rfl rfl rfl rfl (op_not rfl) ?_
                refine Qa rfl rfl rfl rfl (Qk rfl rfl) ?_
                refine Qx [15, 16, 17, 19, 23, 24, 25, 27, 28, 29, 31, 33, 34, 179] [19, 20, 21, 22, 25, 26, 27, 28, 29, 30, 31, 32] rfl rfl rfl rfl (by rw [hF]; rfl) ?_
                exact QA _ (by first | (rw [hq, Bool.false_or]; done) | (rw [hq]; rfl)) (hjj () trivial)
             ·refine Qy 172 rfl rfl rfl (fun hq => ?_) (fun hq => ?_)
              ·refine Qh rfl rfl rfl rfl rfl rfl rfl ?_
               refine Qh rfl rfl rfl rfl rfl rfl rfl ?_
               refine Qa rfl rfl rfl rfl (Qp rfl rfl) ?_
               refine Qx [15, 16, 17, 19, 23, 24, 25, 27, 28, 29, 31, 32, 33, 34, 175] [19, 20, 21, 22, 25, 26, 27, 28, 29, 30, 31, 32] rfl rfl rfl rfl (by rw [hF]; rfl) ?_
               exact QA _ (by first | (rw [hq, Bool.true_or]; done) | (rw [hq]; rfl)) (hjj () trivial)
              ·refine Qm rfl rfl ?_
               refine Qa rfl rfl rfl rfl (Qd rfl) ?_
               refine Qm rfl rfl ?_
               refine Qa rfl rfl rfl rfl (op_not rfl) ?_
               refine Qa rfl rfl rfl rfl (Qk rfl rfl) ?_
               refine Qx [15, 16, 17, 19, 23, 24, 25, 27, 28, 29, 31, 32, 33, 34, 175] [19, 20, 21, 22, 25, 26, 27, 28, 29, 30, 31, 32] rfl rfl rfl rfl (by rw [hF]; rfl) ?_
               exact QA _ (by first | (rw [hq, Bool.false_or]; done) | (rw [hq]; rfl)) (hjj () trivial)
            ·refine Qy 168 rfl rfl rfl (fun hq => ?_) (fun hq => ?_)
             ·refine Qh rfl rfl rfl rfl rfl rfl rfl ?_
              refine Qh rfl rfl rfl rfl rfl rfl rfl ?_
              refine Qa rfl rfl rfl rfl (Qp rfl rfl) ?_
              refine Qx [15, 16, 17, 19, 23, 24, 25, 27, 28, 29, 30, 31, 32, 33, 34, 171] [19, 20, 21, 22, 25, 26, 27, 28, 29, 30, 31, 32] rfl rfl rfl rfl (by rw [hF]; rfl) ?_
              exact QA _ (by first | (rw [hq, Bool.true_or]; done) | (rw [hq]; rfl)) (hjj () trivial)
             ·refine Qm rfl rfl ?_
              refine Qa rfl rfl rfl rfl (Qd rfl) ?_
              refine Qm rfl rfl ?_
              refine Qa rfl rfl rfl rfl (op_not rfl) ?_
              refine Qa rfl rfl rfl rfl (Qk rfl rfl) ?_
              refine Qx [15, 16, 17, 19, 23, 24, 25, 27, 28, 29, 30, 31, 32, 33, 34, 171] [19, 20, 21, 22, 25, 26, 27, 28, 29, 30, 31, 32] rfl rfl rfl rfl (by rw [hF]; rfl) ?_
              exact QA _ (by first | (rw [hq, Bool.false_or]; done) | (rw [hq]; rfl)) (hjj () trivial)
           ·refine Qy 164 rfl rfl rfl (fun hq => ?_) (fun hq => ?_)
            ·refine Qh rfl rfl rfl rfl rfl rfl rfl ?_
             refine Qh rfl rfl rfl rfl rfl rfl rfl ?_
             refine Qa rfl rfl rfl rfl (Qp rfl rfl) ?_
             refine Qx [15, 16, 17, 19, 23, 24, 25, 26, 27, 28, 29, 30, 31, 32, 33, 34, 167] [19, 20, 21, 22, 25, 26, 27, 28, 29, 30, 31, 32] rfl rfl rfl rfl (by rw [hF]; rfl) ?_
             exact QA _ (by first | (rw [hq, Bool.true_or]; done) | (rw [hq]; rfl)) (hjj () trivial)
            ·refine Qm rfl rfl ?_
             refine Qa rfl rfl rfl rfl (Qd rfl) ?_
             refine Qm rfl rfl ?_
             refine Qa rfl rfl rfl rfl (op_not rfl) ?_
             refine Qa rfl rfl rfl rfl (Qk rfl rfl) ?_
             refine Qx [15, 16, 17, 19, 23, 24, 25, 26, 27, 28, 29, 30, 31, 32, 33, 34, 167] [19, 20, 21, 22, 25, 26, 27, 28, 29, 30, 31, 32] rfl rfl rfl rfl (by rw [hF]; rfl) ?_
             exact QA _ (by first | (rw [hq, Bool.false_or]; done) | (rw [hq]; rfl)) (hjj () trivial)
       ·refine Qy 88 rfl rfl rfl (fun hq => ?_) (fun hq => ?_)
        ·refine Qh rfl rfl rfl rfl rfl rfl rfl ?_
         refine Qh rfl rfl rfl rfl rfl rfl rfl ?_
         refine Qh rfl rfl rfl rfl rfl rfl rfl ?_
         refine Qh rfl rfl rfl rfl rfl rfl rfl ?_
         refine Qh rfl rfl rfl rfl rfl rfl rfl ?_
         refine Qh rfl rfl rfl rfl rfl rfl rfl ?_
         refine Qa rfl rfl rfl rfl (Qp rfl rfl) ?_
         refine Qx [5, 6, 7, 9, 11, 13, 95] [11, 12, 13, 14, 15, 16, 17, 18] rfl rfl rfl rfl (by rw [hF]; rfl) ?_
         exact QA _ (by first | (rw [hq, Bool.true_or]; done) | (rw [hq]; rfl)) (hjj () trivial)
        ·refine Qm rfl rfl ?_
         refine Qa rfl rfl rfl rfl (Qd rfl) ?_
         refine Qm rfl rfl ?_
         refine Qa rfl rfl rfl rfl (op_lenO Try.underlying25 rfl rfl (List.length_map _)) ?_
         refine Xy (fun _ _ _ hr => RelP.owLen (id := 15) rfl hr) (fun hlen90 => ?_)
         rw [List.length_map] at hlen90
         refine Qm rfl rfl ?_
         refine Qa rfl rfl rfl rfl (Qi fa27_1 rfl rfl) ?_
         refine Qm rfl rfl ?_
         refine Qa rfl rfl rfl rfl (Qj ag25 rfl rfl) ?_
         refine Qm rfl rfl ?_
         refine Qa rfl rfl rfl rfl (Xm Try.underlying25 rfl (List.length_map _)) ?_
         refine Xy (fun _ _ _ hr => RelP.slLen (i := 92) rfl hr) (fun hlen93 => ?_)
         rw [List.length_map] at hlen93
         refine Qm rfl rfl ?_
         refine Qa rfl rfl rfl rfl (op_gtr rfl rfl) ?_
         refine Qa rfl rfl rfl rfl (Qk rfl rfl) ?_
         refine Qx [5, 6, 7, 9, 11, 13, 95] [11, 12, 13, 14, 15, 16, 17, 18] rfl rfl rfl rfl (by rw [hF]; rfl) ?_
         exact QA _ (by first | (rw [hq, Bool.false_or]; done) | (rw [hq]; rfl)) (hjj () trivial)
    ·refine Qy 74 rfl rfl rfl (fun hq => ?_) (fun hq => ?_)
     ·refine Qh rfl rfl rfl rfl rfl rfl rfl ?_
      refine Qh rfl rfl rfl rfl rfl rfl rfl ?_
      refine Qa rfl rfl rfl rfl (Qp rfl rfl) ?_
      refine Qx [5, 6, 7, 9, 11, 13, 77] [11, 12, 13, 14, 15, 16, 17, 18] rfl rfl rfl rfl (by rw [hF]; rfl) ?_
      exact QA _ (by first | (rw [hq, Bool.true_or]; done) | (rw [hq]; rfl)) (hjj () trivial)
     ·refine Qm rfl rfl ?_
      refine Qa rfl rfl rfl rfl (Qd rfl) ?_
      refine Qm rfl rfl ?_
      refine Qa rfl rfl rfl rfl (op_not rfl) ?_
      refine Qa rfl rfl rfl rfl (Qk rfl rfl) ?_
      refine Qx [5, 6, 7, 9, 11, 13, 77] [11, 12, 13, 14, 15, 16, 17, 18] rfl rfl rfl rfl (by rw [hF]; rfl) ?_
      exact QA _ (by first | (rw [hq, Bool.false_or]; done) | (rw [hq]; rfl)) (hjj () trivial)
   ·refine Qy 70 rfl rfl rfl (fun hq => ?_) (fun hq => ?_)
    ·refine Qh rfl rfl rfl rfl rfl rfl rfl ?_
     refine Qh rfl rfl rfl rfl rfl rfl rfl ?_
     refine Qa rfl rfl rfl rfl (Qp rfl rfl) ?_
     refine Qx [5, 6, 7, 9, 11, 13, 14, 73] [11, 12, 13, 14, 15, 16, 17, 18] rfl rfl rfl rfl (by rw [hF]; rfl) ?_
     exact QA _ (by first | (rw [hq, Bool.true_or]; done) | (rw [hq]; rfl)) (hjj () trivial)
    ·refine Qm rfl rfl ?_
     refine Qa rfl rfl rfl rfl (Qd rfl) ?_
     refine Qm rfl rfl ?_
     refine Qa rfl rfl rfl rfl (op_not rfl) ?_
     refine Qa rfl rfl rfl rfl (Qk rfl rfl) ?_
     refine Qx [5, 6, 7, 9, 11, 13, 14, 73] [11, 12, 13, 14, 15, 16, 17, 18] rfl rfl rfl rfl (by rw [hF]; rfl) ?_
     exact QA _ (by first | (rw [hq, Bool.false_or]; done) | (rw [hq]; rfl)) (hjj () trivial)
  ·refine Qy 66 rfl rfl rfl (fun hq => ?_) (fun hq => ?_)
   ·refine Qh rfl rfl rfl rfl rfl rfl rfl ?_
    refine Qh rfl rfl rfl rfl rfl rfl rfl ?_
    refine Qa rfl rfl rfl rfl (Qp rfl rfl) ?_
    refine Qx [5, 6, 7, 9, 11, 12, 13, 14, 69] [11, 12, 13, 14, 15, 16, 17, 18] rfl rfl rfl rfl (by rw [hF]; rfl) ?_
    exact QA _ (by first | (rw [hq, Bool.true_or]; done) | (rw [hq]; rfl)) (hjj () trivial)
   ·refine Qm rfl rfl ?_
    refine Qa rfl rfl rfl rfl (Qd rfl) ?_
    refine Qm rfl rfl ?_
    refine Qa rfl rfl rfl rfl (op_not rfl) ?_
    refine Qa rfl rfl rfl rfl (Qk rfl rfl) ?_
    refine Qx [5, 6, 7, 9, 11, 12, 13, 14, 69] [11, 12, 13, 14, 15, 16, 17, 18] rfl rfl rfl rfl (by rw [hF]; rfl) ?_
    exact QA _ (by first | (rw [hq, Bool.false_or]; done) | (rw [hq]; rfl)) (hjj () trivial)
end Go.Mod
