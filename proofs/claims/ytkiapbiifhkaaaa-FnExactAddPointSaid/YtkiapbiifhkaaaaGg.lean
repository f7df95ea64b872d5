import Derived.Test.YtkiapbiifhkaaaaGf
namespace Go.Mod
open Go Go.AM Go.Proofs
set_option linter.unusedVariables false
set_option linter.unusedSimpArgs false
set_option maxRecDepth 100000
set_option maxHeartbeats 8000000
theorem c_spec_AddPoint (p0 : Annotated) (p1 : Point) (out : Annotated × Bool) (hm : m_spec_AddPoint p0 p1 = some out) : ACall Try.prog 51 [.agg [.sl 2 (List.map Qa p0.Pre), .sl 2 (List.map Qa p0.Post), .sl 2 (List.map Qd p0.Code), .sl 2 (List.map Qc p0.Points)], .agg [.int .i64 p1.At, .sl 2 (List.map Qa p1.Facts)]] [] (.tup [.agg [.sl 2 (List.map Qa out.1.Pre), .sl 2 (List.map Qa out.1.Post), .sl 2 (List.map Qd out.1.Code), .sl 2 (List.map Qc out.1.Points)], .bool out.2]) [] := by
 refine ACall.intro Try.func51 rfl Try.ntmps51 rfl (fun F hF => ?_)
 unfold m_spec_AddPoint at hm
 refine Qk ?_
 refine Qf ?_
 refine TL_box 11 rfl rfl rfl rfl rfl rfl rfl ?_
 refine TL_box 12 rfl rfl rfl rfl rfl rfl rfl ?_
 refine QJ 13 z69 rfl rfl rfl rfl rfl rfl rfl ?_
 refine Qb rfl rfl rfl rfl (Qh rfl) ?_
 refine Qe ?_
 refine Qk ?_
 refine Qk ?_
 refine Qf ?_
 obtain ⟨r9, hr9, hm⟩ := Qw hm
 refine QA (ACall.F (F := F) (c_spec_l08Is p0 r9 hr9)) Try.call85 rfl rfl rfl rfl rfl ?_
 refine Qb rfl rfl rfl rfl (op_not rfl) ?_
 refine Qe ?_
 refine QF rfl (fun hq => ?_) (fun hq => ?_)
 ·replace hm := QT hq hm
  refine Qk ?_
  refine Qf ?_
  refine Qb rfl rfl rfl rfl (Q3 pl69 z69 rfl rfl rfl rfl rfl) ?_
  refine Qo sz69 rfl rfl rfl rfl rfl rfl rfl rfl rfl ?_
  refine Qb rfl rfl rfl rfl (Qh rfl) ?_
  refine Qe ?_
  refine Qm [4, 5] [13] rfl rfl rfl rfl (by rw [hF]; rfl) ?_
  refine T_nilBox 13 (cs' := [.sl 2 (List.map Qa ([] : List Term)), .sl 2 (List.map Qa ([] : List Term)), .sl 2 (List.map Qd ([] : List Instr)), .sl 2 (List.map Qc ([] : List Point))]) rfl (⟨_, _, rfl, .inr ⟨_, rfl⟩, ⟨_, _, rfl, .inr ⟨_, rfl⟩, ⟨_, _, rfl, .inr ⟨_, rfl⟩, ⟨_, _, rfl, .inr ⟨_, rfl⟩, rfl⟩⟩⟩⟩) rfl ?_
  refine QH ?_
  obtain rfl := Qr hm
  refine ⟨[_, _], [], ⟨⟨_, _, rfl, rfl, .inr ⟨ag69, _, _, sz69, rfl, rfl⟩⟩, rfl, trivial⟩, ?_, rfl, rfl, rfl, rfl⟩
  rfl
 ·replace hm := QS hq hm
  refine QG ?_
  refine Qk ?_
  refine Qf ?_
  obtain ⟨r12, hr12, hm⟩ := Qw hm
  refine Qt [(1000, 14), (1001, 15), (1002, 16), (1003, 17)] (ACall.F (F := F) (c_spec_l08Own p0 r12 hr12)) Try.call103 rfl rfl rfl rfl rfl rfl rfl rfl rfl rfl rfl rfl rfl ?_
  refine TL_shallow 17 (by rw [hF]; rfl) rfl rfl rfl rfl ?_
  refine QJ 18 z69 rfl rfl rfl rfl rfl rfl rfl ?_
  refine Qo sz69 rfl rfl rfl rfl rfl rfl rfl rfl rfl ?_
  refine Qe ?_
  refine Qk ?_
  refine Qf ?_
  refine Qb rfl rfl rfl rfl (Qh rfl) ?_
  refine Qe ?_
  refine Qk ?_
  refine QV ?_
  refine Qm [3, 4, 6, 7] [12, 13, 14, 15, 16, 17, 18] rfl rfl rfl rfl (by rw [hF]; rfl) ?_
  refine T_loop ?_
  obtain ⟨u0, hl0, hm⟩ := Qw hm
  refine TR_iter2 (m_spec_AddPoint_L0 p1 r12) (fun (s0 : Int) => ⟨[(3, .ptr 12 0 0), (4, .ptr 13 0 0), (6, .ptr 18 0 0), (7, .int .i64 s0)], [(12, .box [.int .i64 p1.At, .sl 2 (List.map Qa p1.Facts)]), (13, .box [.snil, .snil, .snil, .snil]), (14, .arr ⟨false, true⟩ 2 184 (List.map Qa r12.Pre)), (15, .arr ⟨false, true⟩ 2 184 (List.map Qa r12.Post)), (16, .arr ⟨false, true⟩ 2 40 (List.map Qd r12.Code)), (17, .arr ⟨false, false⟩ 2 81 (List.map Qc r12.Points)), (18, .box [.ow 14, .ow 15, .ow 16, .ow 17])]⟩) (fun u0 => .exit 0) (fun u0 => ⟨[(3, .ptr 12 0 0), (4, .ptr 13 0 0), (6, .ptr 18 0 0), (7, .int .i64 u0)], [(12, .box [.int .i64 p1.At, .sl 2 (List.map Qa p1.Facts)]), (13, .box [.snil, .snil, .snil, .snil]), (14, .arr ⟨false, true⟩ 2 184 (List.map Qa r12.Pre)), (15, .arr ⟨false, true⟩ 2 184 (List.map Qa r12.Post)), (16, .arr ⟨false, true⟩ 2 40 (List.map Qd r12.Code)), (17, .arr ⟨false, false⟩ 2 81 (List.map Qc r12.Points)), (18, .box [.ow 14, .ow 15, .ow 16, .ow 17])]⟩) (fun u0 => m_spec_AddPoint_A0 p1 r12 u0 = some out) hl0 hm (fun u0 hm => ?_) (fun hx0 s0 c0 hm hc0 => ?_)
  ·unfold m_spec_AddPoint_A0 at hm
   refine Qk ?_
   refine Qf ?_
   refine QE 19 (es := List.map Qc ([] : List Point)) el67 z81 rfl rfl rfl rfl rfl rfl rfl rfl rfl ?_
   refine Qb rfl rfl rfl rfl (Qj fa69_3 rfl rfl) ?_
   refine Qb rfl rfl rfl rfl (Qg ag67 rfl rfl) ?_
   refine Qb rfl rfl rfl rfl (Qi rfl) ?_
   refine TL_freeze 17 (by rw [hF]; rfl) rfl rfl rfl ?_
   obtain ⟨y35, hy35, hm⟩ := Qw hm
   refine Qb rfl rfl rfl rfl (op_sliceI el67 rfl ⟨rfl, ⟨_, rfl⟩⟩ hy35) ?_
   obtain ⟨q36, hq36, hm⟩ := Qw hm
   refine Xn (f := Qc) (a := ([] : List Point)) (b := y35) el67 z81 rfl rfl rfl rfl rfl rfl rfl (Q9 hq36) rfl rfl rfl rfl rfl ?_
   refine Qb rfl rfl rfl rfl (Qh rfl) ?_
   refine Qe ?_
   refine T_join (fun (j0 : List Point) => ⟨[(4, .ptr 13 0 0), (6, .ptr 18 0 0), (7, .int .i64 u0), (8, .ow 19)], [(13, .box [.snil, .snil, .snil, .snil]), (14, .arr ⟨false, true⟩ 2 184 (List.map Qa r12.Pre)), (15, .arr ⟨false, true⟩ 2 184 (List.map Qa r12.Post)), (16, .arr ⟨false, true⟩ 2 40 (List.map Qd r12.Code)), (18, .box [.ow 14, .ow 15, .ow 16, .sl 2 (List.map Qc r12.Points)]), (19, .arr ⟨false, false⟩ 2 81 (List.map Qc j0))]⟩) (fun j0 => m_spec_AddPoint_J0 r12 u0 j0 = some out) (fun j0 hm => ?_) (fun hj0 => ?_)
   ·unfold m_spec_AddPoint_J0 at hm
    refine Qk ?_
    refine Qf ?_
    refine Qb rfl rfl rfl rfl (Qi rfl) ?_
    refine Qb rfl rfl rfl rfl (Qj fa69_3 rfl rfl) ?_
    refine Qb rfl rfl rfl rfl (Qg ag67 rfl rfl) ?_
    refine Qb rfl rfl rfl rfl (Qi rfl) ?_
    obtain ⟨y50, hy50, hm⟩ := Qw hm
    refine Qb rfl rfl rfl rfl (op_sliceI el67 rfl ⟨⟨_, rfl⟩, rfl⟩ hy50) ?_
    obtain ⟨q51, hq51, hm⟩ := Qw hm
    refine Xn (f := Qc) (a := j0) (b := y50) el67 z81 rfl rfl rfl rfl rfl rfl rfl (Q9 hq51) rfl rfl rfl rfl rfl ?_
    refine Qb rfl rfl rfl rfl (Qj fa69_3 rfl rfl) ?_
    refine Qo sz67 rfl rfl rfl rfl rfl rfl rfl rfl rfl ?_
    refine Qe ?_
    refine Qk ?_
    refine Qk ?_
    refine Qf ?_
    obtain ⟨r53, hr53, hm⟩ := Qw hm
    refine QA (ACall.F (F := F) (c_spec_l08Is (Annotated.mk r12.Pre r12.Post r12.Code (j0 ++ y50)) r53 hr53)) Try.call85 rfl rfl rfl rfl rfl ?_
    refine Qb rfl rfl rfl rfl (op_not rfl) ?_
    refine Qe ?_
    refine QF rfl (fun hq => ?_) (fun hq => ?_)
    ·replace hm := QT hq hm
     refine Qk ?_
     refine Qf ?_
     refine Qb rfl rfl rfl rfl (Q3 pl69 z69 rfl rfl rfl rfl rfl) ?_
     refine Qo sz69 rfl rfl rfl rfl rfl rfl rfl rfl rfl ?_
     refine Qb rfl rfl rfl rfl (Qh rfl) ?_
     refine Qe ?_
     refine Qm [4, 5] [13] rfl rfl rfl rfl (by rw [hF]; rfl) ?_
     refine T_nilBox 13 (cs' := [.sl 2 (List.map Qa ([] : List Term)), .sl 2 (List.map Qa ([] : List Term)), .sl 2 (List.map Qd ([] : List Instr)), .sl 2 (List.map Qc ([] : List Point))]) rfl (⟨_, _, rfl, .inr ⟨_, rfl⟩, ⟨_, _, rfl, .inr ⟨_, rfl⟩, ⟨_, _, rfl, .inr ⟨_, rfl⟩, ⟨_, _, rfl, .inr ⟨_, rfl⟩, rfl⟩⟩⟩⟩) rfl ?_
     refine QH ?_
     obtain rfl := Qr hm
     refine ⟨[_, _], [], ⟨⟨_, _, rfl, rfl, .inr ⟨ag69, _, _, sz69, rfl, rfl⟩⟩, rfl, trivial⟩, ?_, rfl, rfl, rfl, rfl⟩
     rfl
    ·replace hm := QS hq hm
     refine QG ?_
     refine Qk ?_
     refine Qf ?_
     refine Qb rfl rfl rfl rfl (Qv ag69 sz69 rfl rfl rfl) ?_
     refine Qo sz69 rfl rfl rfl rfl rfl rfl rfl rfl rfl ?_
     refine Qb rfl rfl rfl rfl (Qh rfl) ?_
     refine Qe ?_
     refine Qm [4, 5] [13, 14, 15, 16, 19] rfl rfl rfl rfl (by rw [hF]; rfl) ?_
     refine T_freeze 14 (by rw [hF]; rfl) rfl rfl rfl ?_
     refine T_freeze 15 (by rw [hF]; rfl) rfl rfl rfl ?_
     refine T_freeze 16 (by rw [hF]; rfl) rfl rfl rfl ?_
     refine T_freeze 19 (by rw [hF]; rfl) rfl rfl rfl ?_
     refine QH ?_
     obtain rfl := Qr hm
     refine ⟨[_, _], [], ⟨⟨_, _, rfl, rfl, .inr ⟨ag69, _, _, sz69, rfl, rfl⟩⟩, rfl, trivial⟩, ?_, rfl, rfl, rfl, rfl⟩
     rfl
   ·refine T_drawZ [7, 8] mix (by kernel_rfl) rfl ?_
    obtain ⟨r42, hr42, hm⟩ := Qw hm
    obtain ⟨q45, hq45, hm⟩ := Qw hm
    refine Qn 0 (by kernel_rfl) rfl rfl rfl rfl rfl (Qi rfl) ?_
    refine Qn 1 (by kernel_rfl) rfl rfl rfl rfl rfl (Qj fa81_0 rfl rfl) ?_
    refine Qn 3 (by kernel_rfl) rfl rfl rfl rfl rfl (Qj fa81_1 rfl rfl) ?_
    refine Qy 6 [true, true, true, true, false, false, false, false, false, false] ⟨[(3, .ptr 12 0 0), (4, .ptr 13 0 0), (6, .ptr 18 0 0), (7, .int .i64 u0), (8, .ow 19), (31, .junk), (32, .ptr 18 0 3), (33, .sl 2 (List.map Qc r12.Points)), (34, .int .i64 u0), (35, .sl 2 (List.map Qc y35)), (36, .ow 19), (37, .ow 19), (38, .ptr 12 0 0), (39, .int .i64 p1.At), (40, .ptr 12 0 1)], [(12, .box [.int .i64 p1.At, .sl 2 (List.map Qa p1.Facts)]), (13, .box [.snil, .snil, .snil, .snil]), (14, .arr ⟨false, true⟩ 2 184 (List.map Qa r12.Pre)), (15, .arr ⟨false, true⟩ 2 184 (List.map Qa r12.Post)), (16, .arr ⟨false, true⟩ 2 40 (List.map Qd r12.Code)), (18, .box [.ow 14, .ow 15, .ow 16, .sl 2 (List.map Qc r12.Points)]), (19, .arr ⟨false, false⟩ 2 81 (List.map Qc (([] : List Point) ++ y35)))]⟩ ?_ (fun hS819_0 => ?_)
    ·refine Qs 4 (by kernel_rfl) rfl ?_
     refine Qb rfl rfl rfl rfl (Qg ag66 rfl rfl) ?_
     refine Qe ?_
     refine Qs 5 (by kernel_rfl) rfl ?_
     refine Qt [(1000, 1300)] (ACall.F (F := F) (Qp p1.Facts r42 hr42)) Try.call104 rfl rfl rfl rfl rfl rfl rfl rfl rfl rfl rfl rfl rfl ?_
     refine Qe ?_
     refine Qn 6 (by kernel_rfl) rfl rfl rfl rfl rfl (Q3 pl81 z81 rfl rfl rfl rfl rfl) ?_
     refine Qs 7 (by kernel_rfl) rfl ?_
     refine TL_freeze 1300 (by rw [hF]; rfl) rfl rfl rfl ?_
     refine QE 1460 (es := List.map Qc [(Point.mk p1.At r42)]) el67 z81 rfl rfl rfl rfl rfl rfl rfl rfl rfl ?_
     refine Qe ?_
     refine Qs 8 (by kernel_rfl) rfl ?_
     refine Xn (f := Qc) (a := (([] : List Point) ++ y35)) (b := [(Point.mk p1.At r42)]) el67 z81 rfl rfl rfl rfl rfl rfl rfl (Q9 hq45) rfl rfl rfl rfl rfl ?_
     refine Qe ?_
     refine Qn 9 (by kernel_rfl) rfl rfl rfl rfl rfl (Qh rfl) ?_
     refine QX (by kernel_rfl) ?_
     refine Qm [4, 6, 7, 8] [13, 14, 15, 16, 18, 19] rfl rfl rfl rfl (by rw [hF]; rfl) ?_
     exact hj0 ((([] : List Point) ++ y35) ++ [(Point.mk p1.At r42)]) hm
    refine Qy 5 [true, true, true, true, true, false, false, false, false, false] ⟨[(3, .ptr 12 0 0), (4, .ptr 13 0 0), (6, .ptr 18 0 0), (7, .int .i64 u0), (8, .ow 19), (31, .junk), (32, .ptr 18 0 3), (33, .sl 2 (List.map Qc r12.Points)), (34, .int .i64 u0), (35, .sl 2 (List.map Qc y35)), (36, .ow 19), (37, .ow 19), (38, .ptr 12 0 0), (39, .int .i64 p1.At), (40, .ptr 12 0 1), (41, .sl 2 (List.map Qa p1.Facts))], [(12, .box [.int .i64 p1.At, .sl 2 (List.map Qa p1.Facts)]), (13, .box [.snil, .snil, .snil, .snil]), (14, .arr ⟨false, true⟩ 2 184 (List.map Qa r12.Pre)), (15, .arr ⟨false, true⟩ 2 184 (List.map Qa r12.Post)), (16, .arr ⟨false, true⟩ 2 40 (List.map Qd r12.Code)), (18, .box [.ow 14, .ow 15, .ow 16, .sl 2 (List.map Qc r12.Points)]), (19, .arr ⟨false, false⟩ 2 81 (List.map Qc (([] : List Point) ++ y35)))]⟩ ?_ (fun hS819_1 => ?_)
    ·refine Qs 5 (by kernel_rfl) rfl ?_
     refine Qt [(1000, 1300)] (ACall.F (F := F) (Qp p1.Facts r42 hr42)) Try.call104 rfl rfl rfl rfl rfl rfl rfl rfl rfl rfl rfl rfl rfl ?_
     refine Qe ?_
     refine Qn 6 (by kernel_rfl) rfl rfl rfl rfl rfl (Q3 pl81 z81 rfl rfl rfl rfl rfl) ?_
     refine Qs 7 (by kernel_rfl) rfl ?_
     refine TL_freeze 1300 (by rw [hF]; rfl) rfl rfl rfl ?_
     refine QE 1460 (es := List.map Qc [(Point.mk p1.At r42)]) el67 z81 rfl rfl rfl rfl rfl rfl rfl rfl rfl ?_
     refine Qe ?_
     refine Qs 8 (by kernel_rfl) rfl ?_
     refine Xn (f := Qc) (a := (([] : List Point) ++ y35)) (b := [(Point.mk p1.At r42)]) el67 z81 rfl rfl rfl rfl rfl rfl rfl (Q9 hq45) rfl rfl rfl rfl rfl ?_
     refine Qe ?_
     refine Qn 9 (by kernel_rfl) rfl rfl rfl rfl rfl (Qh rfl) ?_
     refine QX (by kernel_rfl) ?_
     refine Qm [4, 6, 7, 8] [13, 14, 15, 16, 18, 19] rfl rfl rfl rfl (by rw [hF]; rfl) ?_
     exact hj0 ((([] : List Point) ++ y35) ++ [(Point.mk p1.At r42)]) hm
    refine Qy 5 [true, true, false, true, true, true, false, false, false, false] ⟨[(3, .ptr 12 0 0), (4, .ptr 13 0 0), (6, .ptr 18 0 0), (7, .int .i64 u0), (8, .ow 19), (31, .junk), (32, .ptr 18 0 3), (33, .sl 2 (List.map Qc r12.Points)), (34, .int .i64 u0), (35, .sl 2 (List.map Qc y35)), (36, .ow 19), (37, .ow 19), (38, .ptr 12 0 0), (40, .ptr 12 0 1), (41, .sl 2 (List.map Qa p1.Facts)), (42, .ow 1300)], [(12, .box [.int .i64 p1.At, .sl 2 (List.map Qa p1.Facts)]), (13, .box [.snil, .snil, .snil, .snil]), (14, .arr ⟨false, true⟩ 2 184 (List.map Qa r12.Pre)), (15, .arr ⟨false, true⟩ 2 184 (List.map Qa r12.Post)), (16, .arr ⟨false, true⟩ 2 40 (List.map Qd r12.Code)), (18, .box [.ow 14, .ow 15, .ow 16, .sl 2 (List.map Qc r12.Points)]), (19, .arr ⟨false, false⟩ 2 81 (List.map Qc (([] : List Point) ++ y35))), (1300, .arr ⟨false, true⟩ 2 184 (List.map Qa r42))]⟩ ?_ (fun hS819_2 => ?_)
    ·refine Qs 2 (by kernel_rfl) rfl ?_
     refine Qb rfl rfl rfl rfl (Qg ag2 rfl rfl) ?_
     refine Qe ?_
     refine Qn 6 (by kernel_rfl) rfl rfl rfl rfl rfl (Q3 pl81 z81 rfl rfl rfl rfl rfl) ?_
     refine Qs 7 (by kernel_rfl) rfl ?_
     refine TL_freeze 1300 (by rw [hF]; rfl) rfl rfl rfl ?_
     refine QE 1460 (es := List.map Qc [(Point.mk p1.At r42)]) el67 z81 rfl rfl rfl rfl rfl rfl rfl rfl rfl ?_
     refine Qe ?_
     refine Qs 8 (by kernel_rfl) rfl ?_
     refine Xn (f := Qc) (a := (([] : List Point) ++ y35)) (b := [(Point.mk p1.At r42)]) el67 z81 rfl rfl rfl rfl rfl rfl rfl (Q9 hq45) rfl rfl rfl rfl rfl ?_
     refine Qe ?_
     refine Qn 9 (by kernel_rfl) rfl rfl rfl rfl rfl (Qh rfl) ?_
     refine QX (by kernel_rfl) ?_
     refine Qm [4, 6, 7, 8] [13, 14, 15, 16, 18, 19] rfl rfl rfl rfl (by rw [hF]; rfl) ?_
     exact hj0 ((([] : List Point) ++ y35) ++ [(Point.mk p1.At r42)]) hm
    refine Qy 6 [true, true, false, true, true, false, false, false, false, false] ⟨[(3, .ptr 12 0 0), (4, .ptr 13 0 0), (6, .ptr 18 0 0), (7, .int .i64 u0), (8, .ow 19), (31, .junk), (32, .ptr 18 0 3), (33, .sl 2 (List.map Qc r12.Points)), (34, .int .i64 u0), (35, .sl 2 (List.map Qc y35)), (36, .ow 19), (37, .ow 19), (38, .ptr 12 0 0), (40, .ptr 12 0 1), (41, .sl 2 (List.map Qa p1.Facts))], [(12, .box [.int .i64 p1.At, .sl 2 (List.map Qa p1.Facts)]), (13, .box [.snil, .snil, .snil, .snil]), (14, .arr ⟨false, true⟩ 2 184 (List.map Qa r12.Pre)), (15, .arr ⟨false, true⟩ 2 184 (List.map Qa r12.Post)), (16, .arr ⟨false, true⟩ 2 40 (List.map Qd r12.Code)), (18, .box [.ow 14, .ow 15, .ow 16, .sl 2 (List.map Qc r12.Points)]), (19, .arr ⟨false, false⟩ 2 81 (List.map Qc (([] : List Point) ++ y35)))]⟩ ?_ (fun hS819_3 => ?_)
    ·refine Qz [2, 5] (by kernel_rfl) rfl ?_
     refine ⟨?_, ?_⟩
     ·refine ⟨_, rfl, ?_⟩
      refine Qb rfl rfl rfl rfl (Qg ag2 rfl rfl) ?_
      refine Qe ?_
      refine Ql [3, 4, 6, 7, 8, 31, 32, 33, 34, 35, 36, 37, 38, 39, 40, 41] [12, 13, 14, 15, 16, 18, 19] rfl rfl rfl rfl (by rw [hF]; rfl) ?_
      exact hS819_1
     ·refine ⟨_, rfl, ?_⟩
      refine Qt [(1000, 1300)] (ACall.F (F := F) (Qp p1.Facts r42 hr42)) Try.call104 rfl rfl rfl rfl rfl rfl rfl rfl rfl rfl rfl rfl rfl ?_
      refine Qe ?_
      refine Ql [3, 4, 6, 7, 8, 31, 32, 33, 34, 35, 36, 37, 38, 40, 41, 42] [12, 13, 14, 15, 16, 18, 19, 1300] rfl rfl rfl rfl (by rw [hF]; rfl) ?_
      exact hS819_2
    refine Qz [2, 4] (by kernel_rfl) rfl ?_
    refine ⟨?_, ?_⟩
    ·refine ⟨_, rfl, ?_⟩
     refine Qb rfl rfl rfl rfl (Qg ag2 rfl rfl) ?_
     refine Qe ?_
     refine Ql [3, 4, 6, 7, 8, 31, 32, 33, 34, 35, 36, 37, 38, 39, 40] [12, 13, 14, 15, 16, 18, 19] rfl rfl rfl rfl (by rw [hF]; rfl) ?_
     exact hS819_0
    ·refine ⟨_, rfl, ?_⟩
     refine Qb rfl rfl rfl rfl (Qg ag66 rfl rfl) ?_
     refine Qe ?_
     refine Ql [3, 4, 6, 7, 8, 31, 32, 33, 34, 35, 36, 37, 38, 40, 41] [12, 13, 14, 15, 16, 18, 19] rfl rfl rfl rfl (by rw [hF]; rfl) ?_
     exact hS819_3
  ·unfold m_spec_AddPoint_L0 at hm
   refine Qk ?_
   refine Qk ?_
   refine T_drawZ [] mix (by kernel_rfl) rfl ?_
   refine Qn 0 (by kernel_rfl) rfl rfl rfl rfl rfl (Qi rfl) ?_
   refine Qn 1 (by kernel_rfl) rfl rfl rfl rfl rfl (Qj fa69_3 rfl rfl) ?_
   refine Qn 2 (by kernel_rfl) rfl rfl rfl rfl rfl (Qg ag67 rfl rfl) ?_
   refine Qn 3 (by kernel_rfl) rfl rfl rfl rfl rfl (op_lenO Try.underlying67 rfl rfl (List.length_map _)) ?_
   refine TZ_fact (fun _ _ _ hr => RelP.owLen (id := 17) rfl hr) (fun hlen16 => ?_)
   rw [List.length_map] at hlen16
   refine Qn 4 (by kernel_rfl) rfl rfl rfl rfl rfl (Xd rfl rfl) ?_
   refine Qn 5 (by kernel_rfl) rfl rfl rfl rfl rfl (Qi rfl) ?_
   refine TZ_split 18 rfl rfl rfl (fun hq => ?_) (fun hq => ?_)
   ·replace hm := QT hq hm
    obtain ⟨x22, hx22, hm⟩ := Qw hm
    refine QK 6 (by kernel_rfl) rfl rfl rfl rfl rfl rfl rfl (Qj fa69_3 rfl rfl) ?_
    refine QK 7 (by kernel_rfl) rfl rfl rfl rfl rfl rfl rfl (Qg ag67 rfl rfl) ?_
    refine QK 8 (by kernel_rfl) rfl rfl rfl rfl rfl rfl rfl (Qi rfl) ?_
    refine QK 9 (by kernel_rfl) rfl rfl rfl rfl rfl rfl rfl (op_indexO el67 rfl rfl rfl hx22) ?_
    refine QK 10 (by kernel_rfl) rfl rfl rfl rfl rfl rfl rfl (Qj fa81_0 rfl rfl) ?_
    refine QK 11 (by kernel_rfl) rfl rfl rfl rfl rfl rfl rfl (op_loadT1 ag2 rfl rfl ((getI_spec hx22).2) rfl rfl) ?_
    refine QK 12 (by kernel_rfl) rfl rfl rfl rfl rfl rfl rfl (Qj fa81_0 rfl rfl) ?_
    refine QK 13 (by kernel_rfl) rfl rfl rfl rfl rfl rfl rfl (Qg ag2 rfl rfl) ?_
    refine QK 14 (by kernel_rfl) rfl rfl rfl rfl rfl rfl rfl (Xd rfl rfl) ?_
    refine Qn 15 (by kernel_rfl) rfl rfl rfl rfl rfl (QC rfl rfl) ?_
    refine QX (by kernel_rfl) ?_
    refine QF rfl (fun hq => ?_) (fun hq => ?_)
    ·replace hm := QT hq hm
     refine QG ?_
     refine QV ?_
     refine Qf ?_
     refine Qb rfl rfl rfl rfl (Qi rfl) ?_
     refine Qb rfl rfl rfl rfl (Xh rfl rfl) ?_
     refine Qb rfl rfl rfl rfl (Qh rfl) ?_
     refine Qe ?_
     refine Q5 [3, 4, 6, 7] [12, 13, 14, 15, 16, 17, 18] rfl rfl rfl rfl (by rw [hF]; rfl) ?_
     obtain rfl := Qr hm
     have hn := QM hc0
     exact hn _ rfl
    ·replace hm := QS hq hm
     refine Qm [3, 4, 6, 7] [12, 13, 14, 15, 16, 17, 18] rfl rfl rfl rfl (by rw [hF]; rfl) ?_
     refine T_exit ?_
     obtain rfl := Qr hm
     have hn := QI hc0
     exact hx0 s0 hn
   ·replace hm := QS hq hm
    refine QR 6 (by kernel_rfl) rfl rfl rfl rfl rfl rfl rfl rfl ?_
    refine QR 7 (by kernel_rfl) rfl rfl rfl rfl rfl rfl rfl rfl ?_
    refine QR 8 (by kernel_rfl) rfl rfl rfl rfl rfl rfl rfl rfl ?_
    refine QR 9 (by kernel_rfl) rfl rfl rfl rfl rfl rfl rfl rfl ?_
    refine QR 10 (by kernel_rfl) rfl rfl rfl rfl rfl rfl rfl rfl ?_
    refine QR 11 (by kernel_rfl) rfl rfl rfl rfl rfl rfl rfl rfl ?_
    refine QR 12 (by kernel_rfl) rfl rfl rfl rfl rfl rfl rfl rfl ?_
    refine QR 13 (by kernel_rfl) rfl rfl rfl rfl rfl rfl rfl rfl ?_
    refine QR 14 (by kernel_rfl) rfl rfl rfl rfl rfl rfl rfl rfl ?_
    refine Qn 15 (by kernel_rfl) rfl rfl rfl rfl rfl (QB rfl rfl) ?_
    refine QX (by kernel_rfl) ?_
    refine T_cond_false rfl ?_
    refine Qm [3, 4, 6, 7] [12, 13, 14, 15, 16, 17, 18] rfl rfl rfl rfl (by rw [hF]; rfl) ?_
    refine T_exit ?_
    obtain rfl := Qr hm
    have hn := QI hc0
    exact hx0 s0 hn
theorem c_impl_size (p0 : Int) (out : Int) (hm : m_impl_size p0 = some out) : ACall Try.prog 129 [.int .i64 p0] [] (.int .i64 out) [] := by
 refine ACall.intro Try.func129 rfl Try.ntmps129 rfl (fun F hF => ?_)
 unfold m_impl_size at hm
 refine Qk ?_
 refine Qf ?_
 refine Qb rfl rfl rfl rfl (Qh rfl) ?_
 refine Qe ?_
 refine Qk ?_
 refine Qf ?_
 refine Qb rfl rfl rfl rfl (Qi rfl) ?_
 refine Qb rfl rfl rfl rfl (Qh rfl) ?_
 refine Qe ?_
 refine Qm [2] [] rfl rfl rfl rfl (by rw [hF]; rfl) ?_
 refine QH ?_
 obtain rfl := Qr hm
 refine ⟨[_], [], ⟨rfl, trivial⟩, ?_, rfl, rfl, rfl, rfl⟩
 rfl
theorem c_impl_within (p0 : Int) (p1 : Int) (p2 : Int) (out : Bool) (hm : m_impl_within p0 p1 p2 = some out) : ACall Try.prog 72 [.int .i64 p0, .int .i64 p1, .int .i64 p2] [] (.bool out) [] := by
 refine ACall.intro Try.func72 rfl Try.ntmps72 rfl (fun F hF => ?_)
 unfold m_impl_within at hm
 refine Qk ?_
 refine Qf ?_
 refine Qb rfl rfl rfl rfl (Qh rfl) ?_
 refine Qe ?_
 refine Qk ?_
 refine Qf ?_
 refine Qb rfl rfl rfl rfl (Qi rfl) ?_
 refine Qb rfl rfl rfl rfl (Qi rfl) ?_
 refine Qb rfl rfl rfl rfl (op_leq rfl rfl) ?_
 refine Qb rfl rfl rfl rfl (Qi rfl) ?_
 refine TL_join 4 (fun _ : Unit => ⟨[(14, .bool ((decide (p1 ≤ p0)) && (decide (p0 ≤ p2))))], []⟩) (fun _ => True) (fun _ _ => ?_) (fun hjj => ?_)
 ·refine Qb rfl rfl rfl rfl (Qh rfl) ?_
  refine Qe ?_
  refine Qm [6] [] rfl rfl rfl rfl (by rw [hF]; rfl) ?_
  refine QH ?_
  obtain rfl := Qr hm
  refine ⟨[_], [], ⟨rfl, trivial⟩, ?_, rfl, rfl, rfl, rfl⟩
  rfl
 ·refine TL_split 10 rfl rfl rfl (fun hq => ?_) (fun hq => ?_)
  ·refine Qx rfl rfl ?_
   refine Qb rfl rfl rfl rfl (Qi rfl) ?_
   refine Qx rfl rfl ?_
   refine Qb rfl rfl rfl rfl (Qi rfl) ?_
   refine Qx rfl rfl ?_
   refine Qb rfl rfl rfl rfl (op_leq rfl rfl) ?_
   refine Qb rfl rfl rfl rfl (QC rfl rfl) ?_
   refine TL_keepH [14] [] rfl rfl rfl rfl (by rw [hF]; rfl) ?_
   exact TL_cast _ (by first | (rw [hq, Bool.true_and]; done) | (rw [hq]; rfl)) (hjj () trivial)
  ·refine Qq rfl rfl rfl rfl rfl rfl rfl ?_
   refine Qq rfl rfl rfl rfl rfl rfl rfl ?_
   refine Qq rfl rfl rfl rfl rfl rfl rfl ?_
   refine Qb rfl rfl rfl rfl (QB rfl rfl) ?_
   refine TL_keepH [14] [] rfl rfl rfl rfl (by rw [hF]; rfl) ?_
   exact TL_cast _ (by first | (rw [hq, Bool.false_and]; done) | (rw [hq]; rfl)) (hjj () trivial)
theorem c_impl_isCoeff (p0 : Int) (out : Bool) (hm : m_impl_isCoeff p0 = some out) : ACall Try.prog 171 [.int .i64 p0] [] (.bool out) [] := by
 refine ACall.intro Try.func171 rfl Try.ntmps171 rfl (fun F hF => ?_)
 unfold m_impl_isCoeff at hm
 refine Qk ?_
 refine Qf ?_
 refine Qb rfl rfl rfl rfl (Qh rfl) ?_
 refine Qe ?_
 refine Qk ?_
 refine Qf ?_
 refine Qb rfl rfl rfl rfl (Qi rfl) ?_
 obtain ⟨r4, hr4, hm⟩ := Qw hm
 refine QA (ACall.F (F := F) (c_impl_within p0 (-1000000 : Int) (1000000 : Int) r4 hr4)) Try.call72 rfl rfl rfl rfl rfl ?_
 refine Qb rfl rfl rfl rfl (Qh rfl) ?_
 refine Qe ?_
 refine Qm [2] [] rfl rfl rfl rfl (by rw [hF]; rfl) ?_
 refine QH ?_
 obtain rfl := Qr hm
 refine ⟨[_], [], ⟨rfl, trivial⟩, ?_, rfl, rfl, rfl, rfl⟩
 rfl
theorem c_impl_isVar (p0 : Int) (out : Bool) (hm : m_impl_isVar p0 = some out) : ACall Try.prog 172 [.int .i64 p0] [] (.bool out) [] := by
 refine ACall.intro Try.func172 rfl Try.ntmps172 rfl (fun F hF => ?_)
 unfold m_impl_isVar at hm
 refine Qk ?_
 refine Qf ?_
 refine Qb rfl rfl rfl rfl (Qh rfl) ?_
 refine Qe ?_
 refine Qk ?_
 refine Qf ?_
 refine Qb rfl rfl rfl rfl (Qi rfl) ?_
 obtain ⟨r4, hr4, hm⟩ := Qw hm
 refine QA (ACall.F (F := F) (c_impl_within p0 (0 : Int) (3 : Int) r4 hr4)) Try.call72 rfl rfl rfl rfl rfl ?_
 refine Qb rfl rfl rfl rfl (Qh rfl) ?_
 refine Qe ?_
 refine Qm [2] [] rfl rfl rfl rfl (by rw [hF]; rfl) ?_
 refine QH ?_
 obtain rfl := Qr hm
 refine ⟨[_], [], ⟨rfl, trivial⟩, ?_, rfl, rfl, rfl, rfl⟩
 rfl
theorem c_impl_isPlace (p0 : Int) (out : Bool) (hm : m_impl_isPlace p0 = some out) : ACall Try.prog 173 [.int .i64 p0] [] (.bool out) [] := by
 refine ACall.intro Try.func173 rfl Try.ntmps173 rfl (fun F hF => ?_)
 unfold m_impl_isPlace at hm
 refine Qk ?_
 refine Qf ?_
 refine Qb rfl rfl rfl rfl (Qh rfl) ?_
 refine Qe ?_
 refine Qk ?_
 refine Qf ?_
 refine Qb rfl rfl rfl rfl (Qi rfl) ?_
 obtain ⟨r4, hr4, hm⟩ := Qw hm
 refine QA (ACall.F (F := F) (c_impl_within p0 (0 : Int) (79 : Int) r4 hr4)) Try.call72 rfl rfl rfl rfl rfl ?_
 refine Qb rfl rfl rfl rfl (Qh rfl) ?_
 refine Qe ?_
 refine Qm [2] [] rfl rfl rfl rfl (by rw [hF]; rfl) ?_
 refine QH ?_
 obtain rfl := Qr hm
 refine ⟨[_], [], ⟨rfl, trivial⟩, ?_, rfl, rfl, rfl, rfl⟩
 rfl
theorem c_impl_isEvent (p0 : Int) (out : Bool) (hm : m_impl_isEvent p0 = some out) : ACall Try.prog 174 [.int .i64 p0] [] (.bool out) [] := by
 refine ACall.intro Try.func174 rfl Try.ntmps174 rfl (fun F hF => ?_)
 unfold m_impl_isEvent at hm
 refine Qk ?_
 refine Qf ?_
 refine Qb rfl rfl rfl rfl (Qh rfl) ?_
 refine Qe ?_
 refine Qk ?_
 refine Qf ?_
 refine Qb rfl rfl rfl rfl (Qi rfl) ?_
 obtain ⟨r4, hr4, hm⟩ := Qw hm
 refine QA (ACall.F (F := F) (c_impl_within p0 (0 : Int) (3 : Int) r4 hr4)) Try.call72 rfl rfl rfl rfl rfl ?_
 refine Qb rfl rfl rfl rfl (Qh rfl) ?_
 refine Qe ?_
 refine Qm [2] [] rfl rfl rfl rfl (by rw [hF]; rfl) ?_
 refine QH ?_
 obtain rfl := Qr hm
 refine ⟨[_], [], ⟨rfl, trivial⟩, ?_, rfl, rfl, rfl, rfl⟩
 rfl
theorem c_impl_ValidInstr (p0 : Instr) (out : Bool) (hm : m_impl_ValidInstr p0 = some out) : ACall Try.prog 132 [.agg [.int .i64 p0.Op, .int .i64 p0.Arg]] [] (.bool out) [] := by
 refine ACall.intro Try.func132 rfl Try.ntmps132 rfl (fun F hF => ?_)
 unfold m_impl_ValidInstr at hm
 refine Qk ?_
 refine Qf ?_
 refine TL_box 11 rfl rfl rfl rfl rfl rfl rfl ?_
 refine Qb rfl rfl rfl rfl (Qh rfl) ?_
 refine Qe ?_
 refine Qk ?_
 refine Qk ?_
 refine Qf ?_
 refine Qb rfl rfl rfl rfl (Qj fa40_0 rfl rfl) ?_
 refine Qb rfl rfl rfl rfl (Qg ag2 rfl rfl) ?_
 refine Qe ?_
 refine QV ?_
 refine T_join (fun (j0 : Bool) => ⟨[(1, .ptr 11 0 0), (4, .int .i64 p0.Op), (5, .bool j0)], [(11, .box [.int .i64 p0.Op, .int .i64 p0.Arg])]⟩) (fun j0 => m_impl_ValidInstr_J0 p0 j0 = some out) (fun j0 hm => ?_) (fun hj0 => ?_)
 ·unfold m_impl_ValidInstr_J0 at hm
  refine QF rfl (fun hq => ?_) (fun hq => ?_)
  ·replace hm := QT hq hm
   refine Qk ?_
   refine Qf ?_
   refine Qb rfl rfl rfl rfl (Qj fa40_1 rfl rfl) ?_
   refine Qb rfl rfl rfl rfl (Qg ag2 rfl rfl) ?_
   obtain ⟨r10, hr10, hm⟩ := Qw hm
   refine QA (ACall.F (F := F) (c_impl_isCoeff p0.Arg r10 hr10)) Try.call171 rfl rfl rfl rfl rfl ?_
   refine Qb rfl rfl rfl rfl (Qh rfl) ?_
   refine Qe ?_
   refine Qm [2] [] rfl rfl rfl rfl (by rw [hF]; rfl) ?_
   refine QH ?_
   obtain rfl := Qr hm
   refine ⟨[_], [], ⟨rfl, trivial⟩, ?_, rfl, rfl, rfl, rfl⟩
   rfl
  ·replace hm := QS hq hm
   refine T_join (fun (j1 : Bool) => ⟨[(1, .ptr 11 0 0), (4, .int .i64 p0.Op), (11, .bool j1)], [(11, .box [.int .i64 p0.Op, .int .i64 p0.Arg])]⟩) (fun j1 => m_impl_ValidInstr_J1 p0 j1 = some out) (fun j1 hm => ?_) (fun hj1 => ?_)
   ·unfold m_impl_ValidInstr_J1 at hm
    refine QF rfl (fun hq => ?_) (fun hq => ?_)
    ·replace hm := QT hq hm
     refine Qk ?_
     refine Qf ?_
     refine Qb rfl rfl rfl rfl (Qj fa40_1 rfl rfl) ?_
     refine Qb rfl rfl rfl rfl (Qg ag2 rfl rfl) ?_
     obtain ⟨r16, hr16, hm⟩ := Qw hm
     refine QA (ACall.F (F := F) (c_impl_isVar p0.Arg r16 hr16)) Try.call172 rfl rfl rfl rfl rfl ?_
     refine Qb rfl rfl rfl rfl (Qh rfl) ?_
     refine Qe ?_
     refine Qm [2] [] rfl rfl rfl rfl (by rw [hF]; rfl) ?_
     refine QH ?_
     obtain rfl := Qr hm
     refine ⟨[_], [], ⟨rfl, trivial⟩, ?_, rfl, rfl, rfl, rfl⟩
     rfl
    ·replace hm := QS hq hm
     refine T_join (fun (j2 : Bool) => ⟨[(1, .ptr 11 0 0), (4, .int .i64 p0.Op), (17, .bool j2)], [(11, .box [.int .i64 p0.Op, .int .i64 p0.Arg])]⟩) (fun j2 => m_impl_ValidInstr_J2 p0 j2 = some out) (fun j2 hm => ?_) (fun hj2 => ?_)
     ·unfold m_impl_ValidInstr_J2 at hm
      refine QF rfl (fun hq => ?_) (fun hq => ?_)
      ·replace hm := QT hq hm
       refine Qk ?_
       refine Qf ?_
       refine Qb rfl rfl rfl rfl (Qj fa40_1 rfl rfl) ?_
       refine Qb rfl rfl rfl rfl (Qg ag2 rfl rfl) ?_
       obtain ⟨r22, hr22, hm⟩ := Qw hm
       refine QA (ACall.F (F := F) (c_impl_isPlace p0.Arg r22 hr22)) Try.call173 rfl rfl rfl rfl rfl ?_
       refine Qb rfl rfl rfl rfl (Qh rfl) ?_
       refine Qe ?_
       refine Qm [2] [] rfl rfl rfl rfl (by rw [hF]; rfl) ?_
       refine QH ?_
       obtain rfl := Qr hm
       refine ⟨[_], [], ⟨rfl, trivial⟩, ?_, rfl, rfl, rfl, rfl⟩
       rfl
      ·replace hm := QS hq hm
       refine Qk ?_
       refine Qf ?_
       refine Qb rfl rfl rfl rfl (op_eql rfl rfl) ?_
       refine Qb rfl rfl rfl rfl (Qh rfl) ?_
       refine Qe ?_
       refine QF rfl (fun hq => ?_) (fun hq => ?_)
       ·replace hm := QT hq hm
        refine Qk ?_
        refine Qf ?_
        refine Qb rfl rfl rfl rfl (Qj fa40_1 rfl rfl) ?_
        refine Qb rfl rfl rfl rfl (Qg ag2 rfl rfl) ?_
        obtain ⟨r27, hr27, hm⟩ := Qw hm
        refine QA (ACall.F (F := F) (c_impl_isEvent p0.Arg r27 hr27)) Try.call174 rfl rfl rfl rfl rfl ?_
        refine Qb rfl rfl rfl rfl (Qh rfl) ?_
        refine Qe ?_
        refine Qm [2] [] rfl rfl rfl rfl (by rw [hF]; rfl) ?_
        refine QH ?_
        obtain rfl := Qr hm
        refine ⟨[_], [], ⟨rfl, trivial⟩, ?_, rfl, rfl, rfl, rfl⟩
        rfl
       ·replace hm := QS hq hm
        refine T_join (fun (j3 : Bool) => ⟨[(1, .ptr 11 0 0), (28, .bool j3)], [(11, .box [.int .i64 p0.Op, .int .i64 p0.Arg])]⟩) (fun j3 => Xo p0 j3 = some out) (fun j3 hm => ?_) (fun hj3 => ?_)
        ·unfold Xo at hm
         refine QF rfl (fun hq => ?_) (fun hq => ?_)
         ·replace hm := QT hq hm
          refine Qk ?_
          refine Qf ?_
          refine Qb rfl rfl rfl rfl (Qj fa40_1 rfl rfl) ?_
          refine Qb rfl rfl rfl rfl (Qg ag2 rfl rfl) ?_
          refine Qb rfl rfl rfl rfl (op_eql rfl rfl) ?_
          refine Qb rfl rfl rfl rfl (Qh rfl) ?_
          refine Qe ?_
          refine Qm [2] [] rfl rfl rfl rfl (by rw [hF]; rfl) ?_
          refine QH ?_
          obtain rfl := Qr hm
          refine ⟨[_], [], ⟨rfl, trivial⟩, ?_, rfl, rfl, rfl, rfl⟩
          rfl
         ·replace hm := QS hq hm
          refine QG ?_
          refine Qk ?_
          refine Qf ?_
          refine Qb rfl rfl rfl rfl (Qh rfl) ?_
          refine Qe ?_
          refine Qm [2] [] rfl rfl rfl rfl (by rw [hF]; rfl) ?_
          refine QH ?_
          obtain rfl := Qr hm
          refine ⟨[_], [], ⟨rfl, trivial⟩, ?_, rfl, rfl, rfl, rfl⟩
          rfl
        ·refine Qk ?_
         refine Qf ?_
         refine Qb rfl rfl rfl rfl (op_eql rfl rfl) ?_
         refine Qb rfl rfl rfl rfl (Qh rfl) ?_
         refine Qe ?_
         refine QF rfl (fun hq => ?_) (fun hq => ?_)
         ·replace hm := QT hq hm
          refine QG ?_
          refine Qm [1, 28] [11] rfl rfl rfl rfl (by rw [hF]; rfl) ?_
          exact hj3 (decide (p0.Op = (3 : Int))) hm
         ·replace hm := QS hq hm
          refine Qk ?_
          refine Qf ?_
          refine Qb rfl rfl rfl rfl (op_eql rfl rfl) ?_
          refine Qb rfl rfl rfl rfl (Qh rfl) ?_
          refine Qe ?_
          refine QF rfl (fun hq => ?_) (fun hq => ?_)
          ·replace hm := QT hq hm
           refine QG ?_
           refine Qm [1, 28] [11] rfl rfl rfl rfl (by rw [hF]; rfl) ?_
           exact hj3 (decide (p0.Op = (7 : Int))) hm
          ·replace hm := QS hq hm
           refine Qk ?_
           refine Qf ?_
           refine Qb rfl rfl rfl rfl (op_eql rfl rfl) ?_
           refine Qb rfl rfl rfl rfl (Qh rfl) ?_
           refine Qe ?_
           refine QF rfl (fun hq => ?_) (fun hq => ?_)
           ·replace hm := QT hq hm
            refine QG ?_
            refine Qm [1, 28] [11] rfl rfl rfl rfl (by rw [hF]; rfl) ?_
            exact hj3 (decide (p0.Op = (8 : Int))) hm
           ·replace hm := QS hq hm
            refine Qk ?_
            refine Qf ?_
            refine Qb rfl rfl rfl rfl (op_eql rfl rfl) ?_
            refine Qb rfl rfl rfl rfl (Qh rfl) ?_
            refine Qe ?_
            refine QF rfl (fun hq => ?_) (fun hq => ?_)
            ·replace hm := QT hq hm
             refine QG ?_
             refine Qm [1, 28] [11] rfl rfl rfl rfl (by rw [hF]; rfl) ?_
             exact hj3 (decide (p0.Op = (10 : Int))) hm
            ·replace hm := QS hq hm
             refine Qf ?_
             refine Qb rfl rfl rfl rfl (op_eql rfl rfl) ?_
             refine Qb rfl rfl rfl rfl (Qh rfl) ?_
             refine Qe ?_
             refine Qm [1, 28] [11] rfl rfl rfl rfl (by rw [hF]; rfl) ?_
             exact hj3 (decide (p0.Op = (11 : Int))) hm
     ·refine Qk ?_
      refine Qf ?_
      refine Qb rfl rfl rfl rfl (op_eql rfl rfl) ?_
      refine Qb rfl rfl rfl rfl (Qh rfl) ?_
      refine Qe ?_
      refine QF rfl (fun hq => ?_) (fun hq => ?_)
      ·replace hm := QT hq hm
       refine QG ?_
       refine Qm [1, 4, 17] [11] rfl rfl rfl rfl (by rw [hF]; rfl) ?_
       exact hj2 (decide (p0.Op = (5 : Int))) hm
      ·replace hm := QS hq hm
       refine Qf ?_
       refine Qb rfl rfl rfl rfl (op_eql rfl rfl) ?_
       refine Qb rfl rfl rfl rfl (Qh rfl) ?_
       refine Qe ?_
       refine Qm [1, 4, 17] [11] rfl rfl rfl rfl (by rw [hF]; rfl) ?_
       exact hj2 (decide (p0.Op = (6 : Int))) hm
   ·refine Qk ?_
    refine Qf ?_
    refine Qb rfl rfl rfl rfl (op_eql rfl rfl) ?_
    refine Qb rfl rfl rfl rfl (Qh rfl) ?_
    refine Qe ?_
    refine QF rfl (fun hq => ?_) (fun hq => ?_)
    ·replace hm := QT hq hm
     refine QG ?_
     refine Qm [1, 4, 11] [11] rfl rfl rfl rfl (by rw [hF]; rfl) ?_
     exact hj1 (decide (p0.Op = (1 : Int))) hm
    ·replace hm := QS hq hm
     refine Qf ?_
     refine Qb rfl rfl rfl rfl (op_eql rfl rfl) ?_
     refine Qb rfl rfl rfl rfl (Qh rfl) ?_
     refine Qe ?_
     refine Qm [1, 4, 11] [11] rfl rfl rfl rfl (by rw [hF]; rfl) ?_
     exact hj1 (decide (p0.Op = (2 : Int))) hm
 ·refine Qk ?_
  refine Qf ?_
  refine Qb rfl rfl rfl rfl (op_eql rfl rfl) ?_
  refine Qb rfl rfl rfl rfl (Qh rfl) ?_
  refine Qe ?_
  refine QF rfl (fun hq => ?_) (fun hq => ?_)
  ·replace hm := QT hq hm
   refine QG ?_
   refine Qm [1, 4, 5] [11] rfl rfl rfl rfl (by rw [hF]; rfl) ?_
   exact hj0 (decide (p0.Op = (0 : Int))) hm
  ·replace hm := QS hq hm
   refine Qf ?_
   refine Qb rfl rfl rfl rfl (op_eql rfl rfl) ?_
   refine Qb rfl rfl rfl rfl (Qh rfl) ?_
   refine Qe ?_
   refine Qm [1, 4, 5] [11] rfl rfl rfl rfl (by rw [hF]; rfl) ?_
   exact hj0 (decide (p0.Op = (4 : Int))) hm
theorem c_impl_ValidCode_1 (p0 : Instr) (out : Bool) (hm : m_impl_ValidCode_1 p0 = some out) : ACall Try.prog 131 [.agg [.int .i64 p0.Op, .int .i64 p0.Arg]] [] (.bool out) [] := by
 refine ACall.intro Try.func131 rfl Try.ntmps131 rfl (fun F hF => ?_)
 unfold m_impl_ValidCode_1 at hm
 refine Qk ?_
 refine Qf ?_
 refine TL_box 11 rfl rfl rfl rfl rfl rfl rfl ?_
 refine Qb rfl rfl rfl rfl (Qh rfl) ?_
 refine Qe ?_
 refine Qk ?_
 refine Qf ?_
 refine Qb rfl rfl rfl rfl (Qv ag40 sz40 rfl rfl rfl) ?_
 obtain ⟨r4, hr4, hm⟩ := Qw hm
 refine QA (ACall.F (F := F) (c_impl_ValidInstr p0 r4 hr4)) Try.call132 rfl rfl rfl rfl rfl ?_
 refine Qb rfl rfl rfl rfl (op_not rfl) ?_
 refine Qb rfl rfl rfl rfl (Qh rfl) ?_
 refine Qe ?_
 refine Qm [2] [] rfl rfl rfl rfl (by rw [hF]; rfl) ?_
 refine QH ?_
 obtain rfl := Qr hm
 refine ⟨[_], [], ⟨rfl, trivial⟩, ?_, rfl, rfl, rfl, rfl⟩
 rfl
theorem c_slices_IndexFunc_impl_Instr_impl_Instr_fValidCode_1 (p0 : List Instr) (out : Int) (hm : QZ p0 = some out) : ACall Try.prog 170 [.sl 2 (List.map Qd p0), .fn (.func 131) [] []] [] (.int .i64 out) [] := by
 refine ACall.intro Try.func170 rfl Try.ntmps170 rfl (fun F hF => ?_)
 unfold QZ at hm
 refine Qk ?_
 refine Qf ?_
 refine Qb rfl rfl rfl rfl (Qh rfl) ?_
 refine Qe ?_
 refine Qk ?_
 refine Qk ?_
 refine Qf ?_
 refine Qb rfl rfl rfl rfl (Qi rfl) ?_
 refine Qb rfl rfl rfl rfl (Q8 Try.underlying24 rfl (List.length_map _)) ?_
 refine Xg (fun _ _ _ hr => RelP.slLen (i := 6) rfl hr) (fun hlen7 => ?_)
 rw [List.length_map] at hlen7
 refine Qb rfl rfl rfl rfl (Qi rfl) ?_
 refine Qe ?_
 refine QV ?_
 refine Qm [0, 1, 7, 8] [] rfl rfl rfl rfl (by rw [hF]; rfl) ?_
 refine T_loop ?_
 obtain ⟨u0, hl0, hm⟩ := Qw hm
 refine TR_forL2 p0 (QD) (fun (s0 : Unit) => (.inl ())) (fun n0 (s0 : Unit) => ⟨[(0, .sl 2 (List.map Qd p0)), (1, .fn (.func 131) [] []), (7, .int .i64 (p0.length : Int)), (8, .int .i64 (n0 : Int))], []⟩) (fun u0 => match u0 with | .inl u0 => .exit 0 | .inr u0 => .ret) (fun u0 => match u0 with | .inl u0 => ⟨[], []⟩ | .inr u0 => ⟨[(4, .int .i64 u0)], []⟩) (fun u0 => QL u0 = some out) hl0 hm (fun u0 hm => ?_) (fun hx0 s0 hm => ?_) (fun hx0 n0 x0 s0 c0 hxn0 hlt0 hm hc0 => ?_)
 ·rcases u0 with u0 | u0
  ·unfold QL at hm
   refine Qk ?_
   refine Qf ?_
   refine Qb rfl rfl rfl rfl (Qh rfl) ?_
   refine Qe ?_
   refine Qm [4] [] rfl rfl rfl rfl (by rw [hF]; rfl) ?_
   refine QH ?_
   obtain rfl := Qr hm
   refine ⟨[_], [], ⟨rfl, trivial⟩, ?_, rfl, rfl, rfl, rfl⟩
   rfl
  ·unfold QL at hm
   obtain rfl := Qr hm
   refine ⟨[_], [], ⟨rfl, trivial⟩, ?_, rfl, rfl, rfl, rfl⟩
   rfl
 ·refine Qk ?_
  refine Qf ?_
  refine Qb rfl rfl rfl rfl (Xd rfl rfl) ?_
  refine Qe ?_
  refine Qk ?_
  refine T_if_false rfl (decide_eq_false (by simp)) ?_
  refine Qm [] [] rfl rfl rfl rfl (by rw [hF]; rfl) ?_
  refine T_exit ?_
  exact hx0 (.inl ()) hm
 ·unfold QD at hm
  refine Qk ?_
  refine Qf ?_
  refine Qb rfl rfl rfl rfl (Xd rfl rfl) ?_
  refine Qe ?_
  refine Qk ?_
  refine T_if_true rfl (decide_eq_true (Int.ofNat_lt.2 hlt0)) ?_
  refine QG ?_
  refine Qk ?_
  refine QV ?_
  refine Qk ?_
  refine Qf ?_
  refine Qb rfl rfl rfl rfl (Qi rfl) ?_
  refine Qb rfl rfl rfl rfl (Qh rfl) ?_
  refine Qe ?_
  refine Qk ?_
  refine Qf ?_
  refine Qb rfl rfl rfl rfl (Qi rfl) ?_
  refine Qb rfl rfl rfl rfl (Qi rfl) ?_
  refine Qb rfl rfl rfl rfl (Qi rfl) ?_
  refine Qb rfl rfl rfl rfl (op_index_sl el24 rfl rfl rfl (get_map hxn0) rfl) ?_
  refine Qb rfl rfl rfl rfl (Qv ag40 sz40 rfl rfl rfl) ?_
  obtain ⟨r16, hr16, hm⟩ := Qw hm
  refine TL_callV rfl (ACall.F (F := F) (c_impl_ValidCode_1 x0 r16 hr16)) Try.call131 rfl rfl rfl rfl rfl ?_
  refine Qe ?_
  refine QF rfl (fun hq => ?_) (fun hq => ?_)
  ·replace hm := QT hq hm
   refine Qk ?_
   refine Qf ?_
   refine Qb rfl rfl rfl rfl (Qi rfl) ?_
   refine Qb rfl rfl rfl rfl (Qh rfl) ?_
   refine Qe ?_
   refine Qm [4] [] rfl rfl rfl rfl (by rw [hF]; rfl) ?_
   refine QH ?_
   obtain rfl := Qr hm
   have hn := QI hc0
   exact hx0 (.inr (n0 : Int)) hn
  ·replace hm := QS hq hm
   refine QG ?_
   refine Qf ?_
   refine Qb rfl rfl rfl rfl (op_addN rfl rfl (Nat.lt_of_lt_of_le hlt0 hlen7)) ?_
   refine Qb rfl rfl rfl rfl (Qi rfl) ?_
   refine Qe ?_
   refine Q5 [0, 1, 7, 8] [] rfl rfl rfl rfl (by rw [hF]; rfl) ?_
   obtain rfl := Qr hm
   have hn := QM hc0
   exact hn _ rfl
theorem c_slices_ContainsFunc_impl_Instr_impl_Instr_fValidCode_1 (p0 : List Instr) (out : Bool) (hm : QW p0 = some out) : ACall Try.prog 130 [.sl 2 (List.map Qd p0), .fn (.func 131) [] []] [] (.bool out) [] := by
 refine ACall.intro Try.func130 rfl Try.ntmps130 rfl (fun F hF => ?_)
 unfold QW at hm
 refine Qk ?_
 refine Qf ?_
 refine Qb rfl rfl rfl rfl (Qh rfl) ?_
 refine Qe ?_
 refine Qk ?_
 refine Qf ?_
 refine Qb rfl rfl rfl rfl (Qi rfl) ?_
 refine Qb rfl rfl rfl rfl (Qi rfl) ?_
 obtain ⟨r7, hr7, hm⟩ := Qw hm
 refine QA (ACall.F (F := F) (c_slices_IndexFunc_impl_Instr_impl_Instr_fValidCode_1 p0 r7 hr7)) Try.call170 rfl rfl rfl rfl rfl ?_
 refine Qb rfl rfl rfl rfl (op_geq rfl rfl) ?_
 refine Qb rfl rfl rfl rfl (Qh rfl) ?_
 refine Qe ?_
 refine Qm [4] [] rfl rfl rfl rfl (by rw [hF]; rfl) ?_
 refine QH ?_
 obtain rfl := Qr hm
 refine ⟨[_], [], ⟨rfl, trivial⟩, ?_, rfl, rfl, rfl, rfl⟩
 rfl
theorem c_impl_ValidCode (p0 : List Instr) (out : Bool) (hm : m_impl_ValidCode p0 = some out) : ACall Try.prog 69 [.sl 2 (List.map Qd p0)] [] (.bool out) [] := by
 refine ACall.intro Try.func69 rfl Try.ntmps69 rfl (fun F hF => ?_)
 unfold m_impl_ValidCode at hm
 refine Qk ?_
 refine Qf ?_
 refine Qb rfl rfl rfl rfl (Qh rfl) ?_
 refine Qe ?_
 refine Qk ?_
 refine Qf ?_
 refine Qb rfl rfl rfl rfl (Qi rfl) ?_
 refine Qb rfl rfl rfl rfl (Q8 Try.underlying24 rfl (List.length_map _)) ?_
 refine Xg (fun _ _ _ hr => RelP.slLen (i := 3) rfl hr) (fun hlen4 => ?_)
 rw [List.length_map] at hlen4
 obtain ⟨r5, hr5, hm⟩ := Qw hm
 refine QA (ACall.F (F := F) (c_impl_size (p0.length : Int) r5 hr5)) Try.call129 rfl rfl rfl rfl rfl ?_
 obtain ⟨r6, hr6, hm⟩ := Qw hm
 refine QA (ACall.F (F := F) (c_impl_within r5 (1 : Int) (80 : Int) r6 hr6)) Try.call72 rfl rfl rfl rfl rfl ?_
 refine Qb rfl rfl rfl rfl (Qi rfl) ?_
 refine TL_split 7 rfl rfl rfl (fun hq => ?_) (fun hq => ?_)
 ·replace hm := QT hq hm
  refine Qx rfl rfl ?_
  refine Qb rfl rfl rfl rfl (Qi rfl) ?_
  refine Qx rfl rfl ?_
  obtain ⟨r9, hr9, hm⟩ := Qw hm
  refine QA (ACall.F (F := F) (c_slices_ContainsFunc_impl_Instr_impl_Instr_fValidCode_1 p0 r9 hr9)) Try.call130 rfl rfl rfl rfl rfl ?_
  refine Qx rfl rfl ?_
  refine Qb rfl rfl rfl rfl (op_not rfl) ?_
  refine Qb rfl rfl rfl rfl (QC rfl rfl) ?_
  refine Qb rfl rfl rfl rfl (Qh rfl) ?_
  refine Qe ?_
  refine Qm [2] [] rfl rfl rfl rfl (by rw [hF]; rfl) ?_
  refine QH ?_
  obtain rfl := Qr hm
  refine ⟨[_], [], ⟨rfl, trivial⟩, ?_, rfl, rfl, rfl, rfl⟩
  rfl
 ·replace hm := QS hq hm
  refine Qq rfl rfl rfl rfl rfl rfl rfl ?_
  refine Qq rfl rfl rfl rfl rfl rfl rfl ?_
  refine Qq rfl rfl rfl rfl rfl rfl rfl ?_
  refine Qb rfl rfl rfl rfl (QB rfl rfl) ?_
  refine Qb rfl rfl rfl rfl (Qh rfl) ?_
  refine Qe ?_
  refine Qm [2] [] rfl rfl rfl rfl (by rw [hF]; rfl) ?_
  refine QH ?_
  obtain rfl := Qr hm
  refine ⟨[_], [], ⟨rfl, trivial⟩, ?_, rfl, rfl, rfl, rfl⟩
  rfl
theorem c_impl_allWithin (p0 : List Int) (p1 : Int) (p2 : Int) (out : Bool) (hm : m_impl_allWithin p0 p1 p2 = some out) : ACall Try.prog 71 [.sl 1 (List.map a_i64 p0), .int .i64 p1, .int .i64 p2] [] (.bool out) [] := by
 refine ACall.intro Try.func71 rfl Try.ntmps71 rfl (fun F hF => ?_)
 unfold m_impl_allWithin at hm
 refine Qk ?_
 refine Qf ?_
 refine Qb rfl rfl rfl rfl (Qh rfl) ?_
 refine Qe ?_
 refine Qk ?_
 refine Qk ?_
 refine Qf ?_
 refine Qb rfl rfl rfl rfl (Qi rfl) ?_
 refine Qb rfl rfl rfl rfl (Q8 Try.underlying26 rfl (List.length_map _)) ?_
 refine Xg (fun _ _ _ hr => RelP.slLen (i := 9) rfl hr) (fun hlen10 => ?_)
 rw [List.length_map] at hlen10
 refine Qb rfl rfl rfl rfl (Qi rfl) ?_
 refine Qe ?_
 refine QV ?_
 refine Qm [1, 2, 9, 10, 11] [] rfl rfl rfl rfl (by rw [hF]; rfl) ?_
 refine T_loop ?_
 obtain ⟨u0, hl0, hm⟩ := Qw hm
 refine TR_forL2 p0 (m_impl_allWithin_L0 p1 p2) (fun (s0 : Unit) => (.inl ())) (fun n0 (s0 : Unit) => ⟨[(1, .int .i64 p1), (2, .int .i64 p2), (9, .sl 1 (List.map a_i64 p0)), (10, .int .i64 (p0.length : Int)), (11, .int .i64 (n0 : Int))], []⟩) (fun u0 => match u0 with | .inl u0 => .exit 0 | .inr u0 => .ret) (fun u0 => match u0 with | .inl u0 => ⟨[], []⟩ | .inr u0 => ⟨[(6, .bool u0)], []⟩) (fun u0 => m_impl_allWithin_A0 u0 = some out) hl0 hm (fun u0 hm => ?_) (fun hx0 s0 hm => ?_) (fun hx0 n0 x0 s0 c0 hxn0 hlt0 hm hc0 => ?_)
 ·rcases u0 with u0 | u0
  ·unfold m_impl_allWithin_A0 at hm
   refine Qk ?_
   refine Qf ?_
   refine Qb rfl rfl rfl rfl (Qh rfl) ?_
   refine Qe ?_
   refine Qm [6] [] rfl rfl rfl rfl (by rw [hF]; rfl) ?_
   refine QH ?_
   obtain rfl := Qr hm
   refine ⟨[_], [], ⟨rfl, trivial⟩, ?_, rfl, rfl, rfl, rfl⟩
   rfl
  ·unfold m_impl_allWithin_A0 at hm
   obtain rfl := Qr hm
   refine ⟨[_], [], ⟨rfl, trivial⟩, ?_, rfl, rfl, rfl, rfl⟩
   rfl
 ·refine Qk ?_
  refine Qf ?_
  refine Qb rfl rfl rfl rfl (Xd rfl rfl) ?_
  refine Qe ?_
  refine Qk ?_
  refine T_if_false rfl (decide_eq_false (by simp)) ?_
  refine Qm [] [] rfl rfl rfl rfl (by rw [hF]; rfl) ?_
  refine T_exit ?_
  exact hx0 (.inl ()) hm
 ·unfold m_impl_allWithin_L0 at hm
  refine Qk ?_
  refine Qf ?_
  refine Qb rfl rfl rfl rfl (Xd rfl rfl) ?_
  refine Qe ?_
  refine Qk ?_
  refine T_if_true rfl (decide_eq_true (Int.ofNat_lt.2 hlt0)) ?_
  refine QG ?_
  refine Qk ?_
  refine QV ?_
  refine Qk ?_
  refine Qf ?_
  refine Qb rfl rfl rfl rfl (op_index_sl el26 rfl rfl rfl (get_map hxn0) rfl) ?_
  refine Qb rfl rfl rfl rfl (Qg ag2 rfl rfl) ?_
  refine Qb rfl rfl rfl rfl (Qh rfl) ?_
  refine Qe ?_
  refine Qk ?_
  refine Qf ?_
  refine Qb rfl rfl rfl rfl (Qi rfl) ?_
  refine Qb rfl rfl rfl rfl (Qi rfl) ?_
  refine Qb rfl rfl rfl rfl (Qi rfl) ?_
  obtain ⟨r18, hr18, hm⟩ := Qw hm
  refine QA (ACall.F (F := F) (c_impl_within x0 p1 p2 r18 hr18)) Try.call72 rfl rfl rfl rfl rfl ?_
  refine Qb rfl rfl rfl rfl (op_not rfl) ?_
  refine Qe ?_
  refine QF rfl (fun hq => ?_) (fun hq => ?_)
  ·replace hm := QT hq hm
   refine Qk ?_
   refine Qf ?_
   refine Qb rfl rfl rfl rfl (Qh rfl) ?_
   refine Qe ?_
   refine Qm [6] [] rfl rfl rfl rfl (by rw [hF]; rfl) ?_
   refine QH ?_
   obtain rfl := Qr hm
   have hn := QI hc0
   exact hx0 (.inr false) hn
  ·replace hm := QS hq hm
   refine QG ?_
   refine Qf ?_
   refine Qb rfl rfl rfl rfl (op_addN rfl rfl (Nat.lt_of_lt_of_le hlt0 hlen10)) ?_
   refine Qb rfl rfl rfl rfl (Qi rfl) ?_
   refine Qe ?_
   refine Q5 [1, 2, 9, 10, 11] [] rfl rfl rfl rfl (by rw [hF]; rfl) ?_
   obtain rfl := Qr hm
   have hn := QM hc0
   exact hn _ rfl
theorem c_impl_ValidTerm (p0 : Term) (out : Bool) (hm : m_impl_ValidTerm p0 = some out) : ACall Try.prog 190 [.agg [.int .i64 p0.Const, .sl 1 (List.map a_i64 p0.Coeffs)]] [] (.bool out) [] := by
 refine ACall.intro Try.func190 rfl Try.ntmps190 rfl (fun F hF => ?_)
 unfold m_impl_ValidTerm at hm
 refine Qk ?_
 refine Qf ?_
 refine TL_box 11 rfl rfl rfl rfl rfl rfl rfl ?_
 refine Qb rfl rfl rfl rfl (Qh rfl) ?_
 refine Qe ?_
 refine Qk ?_
 refine Qf ?_
 refine Qb rfl rfl rfl rfl (Qj fa184_1 rfl rfl) ?_
 refine Qb rfl rfl rfl rfl (Qg ag26 rfl rfl) ?_
 refine Qb rfl rfl rfl rfl (Q8 Try.underlying26 rfl (List.length_map _)) ?_
 refine Xg (fun _ _ _ hr => RelP.slLen (i := 5) rfl hr) (fun hlen6 => ?_)
 rw [List.length_map] at hlen6
 refine Qb rfl rfl rfl rfl (Qh rfl) ?_
 refine Qe ?_
 refine Qk ?_
 refine Qf ?_
 refine Qb rfl rfl rfl rfl (Qi rfl) ?_
 refine Qb rfl rfl rfl rfl (op_leq rfl rfl) ?_
 refine Qb rfl rfl rfl rfl (Qi rfl) ?_
 refine TL_split 9 rfl rfl rfl (fun hq => ?_) (fun hq => ?_)
 ·replace hm := QT hq hm
  refine Qx rfl rfl ?_
  refine Qb rfl rfl rfl rfl (Qj fa184_0 rfl rfl) ?_
  refine Qx rfl rfl ?_
  refine Qb rfl rfl rfl rfl (Qg ag2 rfl rfl) ?_
  refine Qx rfl rfl ?_
  obtain ⟨r12, hr12, hm⟩ := Qw hm
  refine QA (ACall.F (F := F) (c_impl_isCoeff p0.Const r12 hr12)) Try.call171 rfl rfl rfl rfl rfl ?_
  refine Qb rfl rfl rfl rfl (QC rfl rfl) ?_
  refine Qb rfl rfl rfl rfl (Qi rfl) ?_
  refine TL_split 14 rfl rfl rfl (fun hq => ?_) (fun hq => ?_)
  ·replace hm := QT hq hm
   refine Qx rfl rfl ?_
   refine Qb rfl rfl rfl rfl (Qj fa184_1 rfl rfl) ?_
   refine Qx rfl rfl ?_
   refine Qb rfl rfl rfl rfl (Qg ag26 rfl rfl) ?_
   refine Qx rfl rfl ?_
   obtain ⟨r17, hr17, hm⟩ := Qw hm
   refine QA (ACall.F (F := F) (c_impl_allWithin p0.Coeffs (-1000000 : Int) (1000000 : Int) r17 hr17)) Try.call71 rfl rfl rfl rfl rfl ?_
   refine Qb rfl rfl rfl rfl (QC rfl rfl) ?_
   refine Qb rfl rfl rfl rfl (Qi rfl) ?_
   refine TL_split 19 rfl rfl rfl (fun hq => ?_) (fun hq => ?_)
   ·replace hm := QT hq hm
    refine Qx rfl rfl ?_
    refine Qb rfl rfl rfl rfl (Qi rfl) ?_
    refine Qx rfl rfl ?_
    refine Qb rfl rfl rfl rfl (op_eql rfl rfl) ?_
    refine Qx rfl rfl ?_
    refine Qb rfl rfl rfl rfl (Qi rfl) ?_
    refine TL_split 22 rfl rfl rfl (fun hq => ?_) (fun hq => ?_)
    ·replace hm := QT hq hm
     refine Qq rfl rfl rfl rfl rfl rfl rfl ?_
     refine Qq rfl rfl rfl rfl rfl rfl rfl ?_
     refine Qq rfl rfl rfl rfl rfl rfl rfl ?_
     refine Qq rfl rfl rfl rfl rfl rfl rfl ?_
     refine Qq rfl rfl rfl rfl rfl rfl rfl ?_
     refine Qq rfl rfl rfl rfl rfl rfl rfl ?_
     refine Qq rfl rfl rfl rfl rfl rfl rfl ?_
     refine Qx rfl rfl ?_
     refine Qb rfl rfl rfl rfl (QC rfl rfl) ?_
     refine Qb rfl rfl rfl rfl (QC rfl rfl) ?_
     refine Qb rfl rfl rfl rfl (Qh rfl) ?_
     refine Qe ?_
     refine Qm [2] [] rfl rfl rfl rfl (by rw [hF]; rfl) ?_
     refine QH ?_
     obtain rfl := Qr hm
     refine ⟨[_], [], ⟨rfl, trivial⟩, ?_, rfl, rfl, rfl, rfl⟩
     rfl
    ·replace hm := QS hq hm
     refine Qx rfl rfl ?_
     refine Qb rfl rfl rfl rfl (Qj fa184_1 rfl rfl) ?_
     refine Qx rfl rfl ?_
     refine Qb rfl rfl rfl rfl (Qg ag26 rfl rfl) ?_
     refine Qx rfl rfl ?_
     refine Qb rfl rfl rfl rfl (Qi rfl) ?_
     refine Qx rfl rfl ?_
     refine Qb rfl rfl rfl rfl (op_subW rfl rfl) ?_
     refine Qx rfl rfl ?_
     obtain ⟨x27, hx27, hm⟩ := Qw hm
     refine Qb rfl rfl rfl rfl (QU el26 rfl rfl hx27 rfl) ?_
     refine Qx rfl rfl ?_
     refine Qb rfl rfl rfl rfl (Qg ag2 rfl rfl) ?_
     refine Qx rfl rfl ?_
     refine Qb rfl rfl rfl rfl (op_neq rfl rfl) ?_
     refine Qx rfl rfl ?_
     refine Qb rfl rfl rfl rfl (QB rfl rfl) ?_
     refine Qb rfl rfl rfl rfl (QC rfl rfl) ?_
     refine Qb rfl rfl rfl rfl (Qh rfl) ?_
     refine Qe ?_
     refine Qm [2] [] rfl rfl rfl rfl (by rw [hF]; rfl) ?_
     refine QH ?_
     obtain rfl := Qr hm
     refine ⟨[_], [], ⟨rfl, trivial⟩, ?_, rfl, rfl, rfl, rfl⟩
     rfl
   ·replace hm := QS hq hm
    refine Qq rfl rfl rfl rfl rfl rfl rfl ?_
    refine Qq rfl rfl rfl rfl rfl rfl rfl ?_
    refine Qq rfl rfl rfl rfl rfl rfl rfl ?_
    refine Xm rfl rfl rfl rfl rfl rfl ?_
    refine Xm rfl rfl rfl rfl rfl rfl ?_
    refine Xm rfl rfl rfl rfl rfl rfl ?_
    refine Xm rfl rfl rfl rfl rfl rfl ?_
    refine Xm rfl rfl rfl rfl rfl rfl ?_
    refine Xm rfl rfl rfl rfl rfl rfl ?_
    refine Xm rfl rfl rfl rfl rfl rfl ?_
    refine Qq rfl rfl rfl rfl rfl rfl rfl ?_
    refine Qb rfl rfl rfl rfl (QB rfl rfl) ?_
    refine Qb rfl rfl rfl rfl (Qh rfl) ?_
    refine Qe ?_
    refine Qm [2] [] rfl rfl rfl rfl (by rw [hF]; rfl) ?_
    refine QH ?_
    obtain rfl := Qr hm
    refine ⟨[_], [], ⟨rfl, trivial⟩, ?_, rfl, rfl, rfl, rfl⟩
    rfl
  ·replace hm := QS hq hm
   refine Qq rfl rfl rfl rfl rfl rfl rfl ?_
   refine Qq rfl rfl rfl rfl rfl rfl rfl ?_
   refine Qq rfl rfl rfl rfl rfl rfl rfl ?_
   refine Qb rfl rfl rfl rfl (QB rfl rfl) ?_
   refine Qb rfl rfl rfl rfl (Qi rfl) ?_
   refine Qq rfl rfl rfl rfl rfl rfl rfl ?_
   refine Qq rfl rfl rfl rfl rfl rfl rfl ?_
   refine Qq rfl rfl rfl rfl rfl rfl rfl ?_
   refine Xm rfl rfl rfl rfl rfl rfl ?_
   refine Xm rfl rfl rfl rfl rfl rfl ?_
   refine Xm rfl rfl rfl rfl rfl rfl ?_
   refine Xm rfl rfl rfl rfl rfl rfl ?_
   refine Xm rfl rfl rfl rfl rfl rfl ?_
   refine Xm rfl rfl rfl rfl rfl rfl ?_
   refine Xm rfl rfl rfl rfl rfl rfl ?_
   refine Qq rfl rfl rfl rfl rfl rfl rfl ?_
   refine Qb rfl rfl rfl rfl (QB rfl rfl) ?_
   refine Qb rfl rfl rfl rfl (Qh rfl) ?_
   refine Qe ?_
   refine Qm [2] [] rfl rfl rfl rfl (by rw [hF]; rfl) ?_
   refine QH ?_
   obtain rfl := Qr hm
   refine ⟨[_], [], ⟨rfl, trivial⟩, ?_, rfl, rfl, rfl, rfl⟩
   rfl
 ·replace hm := QS hq hm
  refine Qq rfl rfl rfl rfl rfl rfl rfl ?_
  refine Qq rfl rfl rfl rfl rfl rfl rfl ?_
  refine Qq rfl rfl rfl rfl rfl rfl rfl ?_
  refine Qb rfl rfl rfl rfl (QB rfl rfl) ?_
  refine Qb rfl rfl rfl rfl (Qi rfl) ?_
  refine Qq rfl rfl rfl rfl rfl rfl rfl ?_
  refine Qq rfl rfl rfl rfl rfl rfl rfl ?_
  refine Qq rfl rfl rfl rfl rfl rfl rfl ?_
  refine Qb rfl rfl rfl rfl (QB rfl rfl) ?_
  refine Qb rfl rfl rfl rfl (Qi rfl) ?_
  refine Qq rfl rfl rfl rfl rfl rfl rfl ?_
  refine Qq rfl rfl rfl rfl rfl rfl rfl ?_
  refine Qq rfl rfl rfl rfl rfl rfl rfl ?_
  refine Xm rfl rfl rfl rfl rfl rfl ?_
  refine Xm rfl rfl rfl rfl rfl rfl ?_
  refine Xm rfl rfl rfl rfl rfl rfl ?_
  refine Xm rfl rfl rfl rfl rfl rfl ?_
  refine Xm rfl rfl rfl rfl rfl rfl ?_
  refine Xm rfl rfl rfl rfl rfl rfl ?_
  refine Xm rfl rfl rfl rfl rfl rfl ?_
  refine Qq rfl rfl rfl rfl rfl rfl rfl ?_
  refine Qb rfl rfl rfl rfl (QB rfl rfl) ?_
  refine Qb rfl rfl rfl rfl (Qh rfl) ?_
  refine Qe ?_
  refine Qm [2] [] rfl rfl rfl rfl (by rw [hF]; rfl) ?_
  refine QH ?_
  obtain rfl := Qr hm
  refine ⟨[_], [], ⟨rfl, trivial⟩, ?_, rfl, rfl, rfl, rfl⟩
  rfl
theorem c_impl_isOver (p0 : Term) (out : Bool) (hm : m_impl_isOver p0 = some out) : ACall Try.prog 180 [.agg [.int .i64 p0.Const, .sl 1 (List.map a_i64 p0.Coeffs)]] [] (.bool out) [] := by
 refine ACall.intro Try.func180 rfl Try.ntmps180 rfl (fun F hF => ?_)
 unfold m_impl_isOver at hm
 refine Qk ?_
 refine Qf ?_
 refine TL_box 11 rfl rfl rfl rfl rfl rfl rfl ?_
 refine Qb rfl rfl rfl rfl (Qh rfl) ?_
 refine Qe ?_
 refine Qk ?_
 refine Qf ?_
 refine Qb rfl rfl rfl rfl (Qv ag184 sz184 rfl rfl rfl) ?_
 obtain ⟨r4, hr4, hm⟩ := Qw hm
 refine QA (ACall.F (F := F) (c_impl_ValidTerm p0 r4 hr4)) Try.call190 rfl rfl rfl rfl rfl ?_
 refine Qb rfl rfl rfl rfl (Qi rfl) ?_
 refine TL_join 5 (fun _ : Unit => ⟨[(10, .bool (r4 && (decide ((p0.Coeffs.length : Int) ≤ (4 : Int)))))], []⟩) (fun _ => True) (fun _ _ => ?_) (fun hjj => ?_)
 ·refine Qb rfl rfl rfl rfl (Qh rfl) ?_
  refine Qe ?_
  refine Qm [2] [] rfl rfl rfl rfl (by rw [hF]; rfl) ?_
  refine QH ?_
  obtain rfl := Qr hm
  refine ⟨[_], [], ⟨rfl, trivial⟩, ?_, rfl, rfl, rfl, rfl⟩
  rfl
 ·refine TL_split 5 rfl rfl rfl (fun hq => ?_) (fun hq => ?_)
  ·refine Qx rfl rfl ?_
   refine Qb rfl rfl rfl rfl (Qj fa184_1 rfl rfl) ?_
   refine Qx rfl rfl ?_
   refine Qb rfl rfl rfl rfl (Qg ag26 rfl rfl) ?_
   refine Qx rfl rfl ?_
   refine Qb rfl rfl rfl rfl (Q8 Try.underlying26 rfl (List.length_map _)) ?_
   refine Xg (fun _ _ _ hr => RelP.slLen (i := 7) rfl hr) (fun hlen8 => ?_)
   rw [List.length_map] at hlen8
   refine Qx rfl rfl ?_
   refine Qb rfl rfl rfl rfl (op_leq rfl rfl) ?_
   refine Qb rfl rfl rfl rfl (QC rfl rfl) ?_
   refine TL_keepH [10] [] rfl rfl rfl rfl (by rw [hF]; rfl) ?_
   exact TL_cast _ (by first | (rw [hq, Bool.true_and]; done) | (rw [hq]; rfl)) (hjj () trivial)
  ·refine Qq rfl rfl rfl rfl rfl rfl rfl ?_
   refine Qq rfl rfl rfl rfl rfl rfl rfl ?_
   refine Qq rfl rfl rfl rfl rfl rfl rfl ?_
   refine Qq rfl rfl rfl rfl rfl rfl rfl ?_
   refine Qb rfl rfl rfl rfl (QB rfl rfl) ?_
   refine TL_keepH [10] [] rfl rfl rfl rfl (by rw [hF]; rfl) ?_
   exact TL_cast _ (by first | (rw [hq, Bool.false_and]; done) | (rw [hq]; rfl)) (hjj () trivial)
theorem c_impl_areOver_1 (p0 : Term) (out : Bool) (hm : m_impl_areOver_1 p0 = some out) : ACall Try.prog 179 [.agg [.int .i64 p0.Const, .sl 1 (List.map a_i64 p0.Coeffs)]] [] (.bool out) [] := by
 refine ACall.intro Try.func179 rfl Try.ntmps179 rfl (fun F hF => ?_)
 unfold m_impl_areOver_1 at hm
 refine Qk ?_
 refine Qf ?_
 refine TL_box 11 rfl rfl rfl rfl rfl rfl rfl ?_
 refine Qb rfl rfl rfl rfl (Qh rfl) ?_
 refine Qe ?_
 refine Qk ?_
 refine Qf ?_
 refine Qb rfl rfl rfl rfl (Qv ag184 sz184 rfl rfl rfl) ?_
 obtain ⟨r4, hr4, hm⟩ := Qw hm
 refine QA (ACall.F (F := F) (c_impl_isOver p0 r4 hr4)) Try.call180 rfl rfl rfl rfl rfl ?_
 refine Qb rfl rfl rfl rfl (op_not rfl) ?_
 refine Qb rfl rfl rfl rfl (Qh rfl) ?_
 refine Qe ?_
 refine Qm [2] [] rfl rfl rfl rfl (by rw [hF]; rfl) ?_
 refine QH ?_
 obtain rfl := Qr hm
 refine ⟨[_], [], ⟨rfl, trivial⟩, ?_, rfl, rfl, rfl, rfl⟩
 rfl
theorem c_slices_IndexFunc_impl_Term_impl_Term_fareOver_1 (p0 : List Term) (out : Int) (hm : Q4 p0 = some out) : ACall Try.prog 189 [.sl 2 (List.map Qa p0), .fn (.func 179) [] []] [] (.int .i64 out) [] := by
 refine ACall.intro Try.func189 rfl Try.ntmps189 rfl (fun F hF => ?_)
 unfold Q4 at hm
 refine Qk ?_
 refine Qf ?_
 refine Qb rfl rfl rfl rfl (Qh rfl) ?_
 refine Qe ?_
 refine Qk ?_
 refine Qk ?_
 refine Qf ?_
 refine Qb rfl rfl rfl rfl (Qi rfl) ?_
 refine Qb rfl rfl rfl rfl (Q8 Try.underlying66 rfl (List.length_map _)) ?_
 refine Xg (fun _ _ _ hr => RelP.slLen (i := 6) rfl hr) (fun hlen7 => ?_)
 rw [List.length_map] at hlen7
 refine Qb rfl rfl rfl rfl (Qi rfl) ?_
 refine Qe ?_
 refine QV ?_
 refine Qm [0, 1, 7, 8] [] rfl rfl rfl rfl (by rw [hF]; rfl) ?_
 refine T_loop ?_
 obtain ⟨u0, hl0, hm⟩ := Qw hm
 refine TR_forL2 p0 (QQ) (fun (s0 : Unit) => (.inl ())) (fun n0 (s0 : Unit) => ⟨[(0, .sl 2 (List.map Qa p0)), (1, .fn (.func 179) [] []), (7, .int .i64 (p0.length : Int)), (8, .int .i64 (n0 : Int))], []⟩) (fun u0 => match u0 with | .inl u0 => .exit 0 | .inr u0 => .ret) (fun u0 => match u0 with | .inl u0 => ⟨[], []⟩ | .inr u0 => ⟨[(4, .int .i64 u0)], []⟩) (fun u0 => QP u0 = some out) hl0 hm (fun u0 hm => ?_) (fun hx0 s0 hm => ?_) (fun hx0 n0 x0 s0 c0 hxn0 hlt0 hm hc0 => ?_)
 ·rcases u0 with u0 | u0
  ·unfold QP at hm
   refine Qk ?_
   refine Qf ?_
   refine Qb rfl rfl rfl rfl (Qh rfl) ?_
   refine Qe ?_
   refine Qm [4] [] rfl rfl rfl rfl (by rw [hF]; rfl) ?_
   refine QH ?_
   obtain rfl := Qr hm
   refine ⟨[_], [], ⟨rfl, trivial⟩, ?_, rfl, rfl, rfl, rfl⟩
   rfl
  ·unfold QP at hm
   obtain rfl := Qr hm
   refine ⟨[_], [], ⟨rfl, trivial⟩, ?_, rfl, rfl, rfl, rfl⟩
   rfl
 ·refine Qk ?_
  refine Qf ?_
  refine Qb rfl rfl rfl rfl (Xd rfl rfl) ?_
  refine Qe ?_
  refine Qk ?_
  refine T_if_false rfl (decide_eq_false (by simp)) ?_
  refine Qm [] [] rfl rfl rfl rfl (by rw [hF]; rfl) ?_
  refine T_exit ?_
  exact hx0 (.inl ()) hm
 ·unfold QQ at hm
  refine Qk ?_
  refine Qf ?_
  refine Qb rfl rfl rfl rfl (Xd rfl rfl) ?_
  refine Qe ?_
  refine Qk ?_
  refine T_if_true rfl (decide_eq_true (Int.ofNat_lt.2 hlt0)) ?_
  refine QG ?_
  refine Qk ?_
  refine QV ?_
  refine Qk ?_
  refine Qf ?_
  refine Qb rfl rfl rfl rfl (Qi rfl) ?_
  refine Qb rfl rfl rfl rfl (Qh rfl) ?_
  refine Qe ?_
  refine Qk ?_
  refine Qf ?_
  refine Qb rfl rfl rfl rfl (Qi rfl) ?_
  refine Qb rfl rfl rfl rfl (Qi rfl) ?_
  refine Qb rfl rfl rfl rfl (Qi rfl) ?_
  refine Qb rfl rfl rfl rfl (op_index_sl el66 rfl rfl rfl (get_map hxn0) rfl) ?_
  refine Qb rfl rfl rfl rfl (Qv ag184 sz184 rfl rfl rfl) ?_
  obtain ⟨r16, hr16, hm⟩ := Qw hm
  refine TL_callV rfl (ACall.F (F := F) (c_impl_areOver_1 x0 r16 hr16)) Try.call179 rfl rfl rfl rfl rfl ?_
  refine Qe ?_
  refine QF rfl (fun hq => ?_) (fun hq => ?_)
  ·replace hm := QT hq hm
   refine Qk ?_
   refine Qf ?_
   refine Qb rfl rfl rfl rfl (Qi rfl) ?_
   refine Qb rfl rfl rfl rfl (Qh rfl) ?_
   refine Qe ?_
   refine Qm [4] [] rfl rfl rfl rfl (by rw [hF]; rfl) ?_
   refine QH ?_
   obtain rfl := Qr hm
   have hn := QI hc0
   exact hx0 (.inr (n0 : Int)) hn
  ·replace hm := QS hq hm
   refine QG ?_
   refine Qf ?_
   refine Qb rfl rfl rfl rfl (op_addN rfl rfl (Nat.lt_of_lt_of_le hlt0 hlen7)) ?_
   refine Qb rfl rfl rfl rfl (Qi rfl) ?_
   refine Qe ?_
   refine Q5 [0, 1, 7, 8] [] rfl rfl rfl rfl (by rw [hF]; rfl) ?_
   obtain rfl := Qr hm
   have hn := QM hc0
   exact hn _ rfl
theorem c_slices_ContainsFunc_impl_Term_impl_Term_fareOver_1 (p0 : List Term) (out : Bool) (hm : Q2 p0 = some out) : ACall Try.prog 178 [.sl 2 (List.map Qa p0), .fn (.func 179) [] []] [] (.bool out) [] := by
 refine ACall.intro Try.func178 rfl Try.ntmps178 rfl (fun F hF => ?_)
 unfold Q2 at hm
 refine Qk ?_
 refine Qf ?_
 refine Qb rfl rfl rfl rfl (Qh rfl) ?_
 refine Qe ?_
 refine Qk ?_
 refine Qf ?_
 refine Qb rfl rfl rfl rfl (Qi rfl) ?_
 refine Qb rfl rfl rfl rfl (Qi rfl) ?_
 obtain ⟨r7, hr7, hm⟩ := Qw hm
 refine QA (ACall.F (F := F) (c_slices_IndexFunc_impl_Term_impl_Term_fareOver_1 p0 r7 hr7)) Try.call189 rfl rfl rfl rfl rfl ?_
 refine Qb rfl rfl rfl rfl (op_geq rfl rfl) ?_
 refine Qb rfl rfl rfl rfl (Qh rfl) ?_
 refine Qe ?_
 refine Qm [4] [] rfl rfl rfl rfl (by rw [hF]; rfl) ?_
 refine QH ?_
 obtain rfl := Qr hm
 refine ⟨[_], [], ⟨rfl, trivial⟩, ?_, rfl, rfl, rfl, rfl⟩
 rfl
theorem c_impl_areOver (p0 : List Term) (p1 : Int) (out : Bool) (hm : m_impl_areOver p0 p1 = some out) : ACall Try.prog 149 [.sl 2 (List.map Qa p0), .int .i64 p1] [] (.bool out) [] := by
 refine ACall.intro Try.func149 rfl Try.ntmps149 rfl (fun F hF => ?_)
 unfold m_impl_areOver at hm
 refine Qk ?_
 refine Qf ?_
 refine Qb rfl rfl rfl rfl (Qh rfl) ?_
 refine Qe ?_
 refine Qk ?_
 refine Qf ?_
 refine Qb rfl rfl rfl rfl (Qi rfl) ?_
 refine Qb rfl rfl rfl rfl (Q8 Try.underlying66 rfl (List.length_map _)) ?_
 refine Xg (fun _ _ _ hr => RelP.slLen (i := 5) rfl hr) (fun hlen6 => ?_)
 rw [List.length_map] at hlen6
 refine Qb rfl rfl rfl rfl (Qi rfl) ?_
 refine Qb rfl rfl rfl rfl (op_leq rfl rfl) ?_
 refine Qb rfl rfl rfl rfl (Qi rfl) ?_
 refine TL_split 9 rfl rfl rfl (fun hq => ?_) (fun hq => ?_)
 ·replace hm := QT hq hm
  refine Qx rfl rfl ?_
  refine Qb rfl rfl rfl rfl (Qi rfl) ?_
  refine Qx rfl rfl ?_
  obtain ⟨r11, hr11, hm⟩ := Qw hm
  refine QA (ACall.F (F := F) (c_slices_ContainsFunc_impl_Term_impl_Term_fareOver_1 p0 r11 hr11)) Try.call178 rfl rfl rfl rfl rfl ?_
  refine Qx rfl rfl ?_
  refine Qb rfl rfl rfl rfl (op_not rfl) ?_
  refine Qb rfl rfl rfl rfl (QC rfl rfl) ?_
  refine Qb rfl rfl rfl rfl (Qh rfl) ?_
  refine Qe ?_
  refine Qm [4] [] rfl rfl rfl rfl (by rw [hF]; rfl) ?_
  refine QH ?_
  obtain rfl := Qr hm
  refine ⟨[_], [], ⟨rfl, trivial⟩, ?_, rfl, rfl, rfl, rfl⟩
  rfl
 ·replace hm := QS hq hm
  refine Qq rfl rfl rfl rfl rfl rfl rfl ?_
  refine Qq rfl rfl rfl rfl rfl rfl rfl ?_
  refine Qq rfl rfl rfl rfl rfl rfl rfl ?_
  refine Qb rfl rfl rfl rfl (QB rfl rfl) ?_
  refine Qb rfl rfl rfl rfl (Qh rfl) ?_
  refine Qe ?_
  refine Qm [4] [] rfl rfl rfl rfl (by rw [hF]; rfl) ?_
  refine QH ?_
  obtain rfl := Qr hm
  refine ⟨[_], [], ⟨rfl, trivial⟩, ?_, rfl, rfl, rfl, rfl⟩
  rfl
theorem c_impl_isIndex (p0 : Int) (p1 : Int) (out : Bool) (hm : m_impl_isIndex p0 p1 = some out) : ACall Try.prog 92 [.int .i64 p0, .int .i64 p1] [] (.bool out) [] := by
 refine ACall.intro Try.func92 rfl Try.ntmps92 rfl (fun F hF => ?_)
 unfold m_impl_isIndex at hm
 refine Qk ?_
 refine Qf ?_
 refine Qb rfl rfl rfl rfl (Qh rfl) ?_
 refine Qe ?_
 refine Qk ?_
 refine Qf ?_
 refine Qb rfl rfl rfl rfl (Qi rfl) ?_
 refine Qb rfl rfl rfl rfl (Qi rfl) ?_
 obtain ⟨r7, hr7, hm⟩ := Qw hm
 refine QA (ACall.F (F := F) (c_impl_size p1 r7 hr7)) Try.call129 rfl rfl rfl rfl rfl ?_
 refine Qb rfl rfl rfl rfl (op_subW rfl rfl) ?_
 obtain ⟨r9, hr9, hm⟩ := Qw hm
 refine QA (ACall.F (F := F) (c_impl_within p0 (0 : Int) (w64 (r7 - (1 : Int))) r9 hr9)) Try.call72 rfl rfl rfl rfl rfl ?_
 refine Qb rfl rfl rfl rfl (Qh rfl) ?_
 refine Qe ?_
 refine Qm [4] [] rfl rfl rfl rfl (by rw [hF]; rfl) ?_
 refine QH ?_
 obtain rfl := Qr hm
 refine ⟨[_], [], ⟨rfl, trivial⟩, ?_, rfl, rfl, rfl, rfl⟩
 rfl
theorem c_impl_ValidAnnotated (p0 : Annotated) (out : Bool) (hm : m_impl_ValidAnnotated p0 = some out) : ACall Try.prog 89 [.agg [.sl 2 (List.map Qa p0.Pre), .sl 2 (List.map Qa p0.Post), .sl 2 (List.map Qd p0.Code), .sl 2 (List.map Qc p0.Points)]] [] (.bool out) [] := by
 refine ACall.intro Try.func89 rfl Try.ntmps89 rfl (fun F hF => ?_)
 unfold m_impl_ValidAnnotated at hm
 refine Qk ?_
 refine Qf ?_
 refine TL_box 11 rfl rfl rfl rfl rfl rfl rfl ?_
 refine Qb rfl rfl rfl rfl (Qh rfl) ?_
 refine Qe ?_
 refine Qk ?_
 refine Qk ?_
 refine Qf ?_
 refine Qb rfl rfl rfl rfl (Qj fa69_2 rfl rfl) ?_
 refine Qb rfl rfl rfl rfl (Qg ag24 rfl rfl) ?_
 obtain ⟨r7, hr7, hm⟩ := Qw hm
 refine QA (ACall.F (F := F) (c_impl_ValidCode p0.Code r7 hr7)) Try.call69 rfl rfl rfl rfl rfl ?_
 refine Qb rfl rfl rfl rfl (op_not rfl) ?_
 refine Qb rfl rfl rfl rfl (Qi rfl) ?_
 refine TL_split 9 rfl rfl rfl (fun hq => ?_) (fun hq => ?_)
 ·replace hm := QT hq hm
  refine Qq rfl rfl rfl rfl rfl rfl rfl ?_
  refine Qq rfl rfl rfl rfl rfl rfl rfl ?_
  refine Qq rfl rfl rfl rfl rfl rfl rfl ?_
  refine Qq rfl rfl rfl rfl rfl rfl rfl ?_
  refine Qb rfl rfl rfl rfl (QC rfl rfl) ?_
  refine Qb rfl rfl rfl rfl (Qi rfl) ?_
  refine Qq rfl rfl rfl rfl rfl rfl rfl ?_
  refine Qq rfl rfl rfl rfl rfl rfl rfl ?_
  refine Qq rfl rfl rfl rfl rfl rfl rfl ?_
  refine Qq rfl rfl rfl rfl rfl rfl rfl ?_
  refine Qb rfl rfl rfl rfl (QC rfl rfl) ?_
  refine Qb rfl rfl rfl rfl (Qi rfl) ?_
  refine Qq rfl rfl rfl rfl rfl rfl rfl ?_
  refine Qq rfl rfl rfl rfl rfl rfl rfl ?_
  refine Qq rfl rfl rfl rfl rfl rfl rfl ?_
  refine Qq rfl rfl rfl rfl rfl rfl rfl ?_
  refine Qb rfl rfl rfl rfl (QC rfl rfl) ?_
  refine Qe ?_
  refine T_cond_true rfl ?_
  refine Qk ?_
  refine Qf ?_
  refine Qb rfl rfl rfl rfl (Qh rfl) ?_
  refine Qe ?_
  refine Qm [2] [] rfl rfl rfl rfl (by rw [hF]; rfl) ?_
  refine QH ?_
  obtain rfl := Qr hm
  refine ⟨[_], [], ⟨rfl, trivial⟩, ?_, rfl, rfl, rfl, rfl⟩
  rfl
 ·replace hm := QS hq hm
  refine Qx rfl rfl ?_
  refine Qb rfl rfl rfl rfl (Qj fa69_0 rfl rfl) ?_
  refine Qx rfl rfl ?_
  refine Qb rfl rfl rfl rfl (Qg ag66 rfl rfl) ?_
  refine Qx rfl rfl ?_
  obtain ⟨r12, hr12, hm⟩ := Qw hm
  refine QA (ACall.F (F := F) (c_impl_areOver p0.Pre (6 : Int) r12 hr12)) Try.call149 rfl rfl rfl rfl rfl ?_
  refine Qx rfl rfl ?_
  refine Qb rfl rfl rfl rfl (op_not rfl) ?_
  refine Qb rfl rfl rfl rfl (QB rfl rfl) ?_
  refine Qb rfl rfl rfl rfl (Qi rfl) ?_
  refine TL_split 15 rfl rfl rfl (fun hq => ?_) (fun hq => ?_)
  ·replace hm := QT hq hm
   refine Qq rfl rfl rfl rfl rfl rfl rfl ?_
   refine Qq rfl rfl rfl rfl rfl rfl rfl ?_
   refine Qq rfl rfl rfl rfl rfl rfl rfl ?_
   refine Qq rfl rfl rfl rfl rfl rfl rfl ?_
   refine Qb rfl rfl rfl rfl (QC rfl rfl) ?_
   refine Qb rfl rfl rfl rfl (Qi rfl) ?_
   refine Qq rfl rfl rfl rfl rfl rfl rfl ?_
   refine Qq rfl rfl rfl rfl rfl rfl rfl ?_
   refine Qq rfl rfl rfl rfl rfl rfl rfl ?_
   refine Qq rfl rfl rfl rfl rfl rfl rfl ?_
   refine Qb rfl rfl rfl rfl (QC rfl rfl) ?_
   refine Qe ?_
   refine T_cond_true rfl ?_
   refine Qk ?_
   refine Qf ?_
   refine Qb rfl rfl rfl rfl (Qh rfl) ?_
   refine Qe ?_
   refine Qm [2] [] rfl rfl rfl rfl (by rw [hF]; rfl) ?_
   refine QH ?_
   obtain rfl := Qr hm
   refine ⟨[_], [], ⟨rfl, trivial⟩, ?_, rfl, rfl, rfl, rfl⟩
   rfl
  ·replace hm := QS hq hm
   refine Qx rfl rfl ?_
   refine Qb rfl rfl rfl rfl (Qj fa69_1 rfl rfl) ?_
   refine Qx rfl rfl ?_
   refine Qb rfl rfl rfl rfl (Qg ag66 rfl rfl) ?_
   refine Qx rfl rfl ?_
   obtain ⟨r18, hr18, hm⟩ := Qw hm
   refine QA (ACall.F (F := F) (c_impl_areOver p0.Post (6 : Int) r18 hr18)) Try.call149 rfl rfl rfl rfl rfl ?_
   refine Qx rfl rfl ?_
   refine Qb rfl rfl rfl rfl (op_not rfl) ?_
   refine Qb rfl rfl rfl rfl (QB rfl rfl) ?_
   refine Qb rfl rfl rfl rfl (Qi rfl) ?_
   refine TL_join 5 (fun _ : Unit => ⟨[(1, .ptr 11 0 0), (26, .bool ((!r18) || (decide ((8 : Int) < (p0.Points.length : Int)))))], [(11, .box [.sl 2 (List.map Qa p0.Pre), .sl 2 (List.map Qa p0.Post), .sl 2 (List.map Qd p0.Code), .sl 2 (List.map Qc p0.Points)])]⟩) (fun _ => True) (fun _ _ => ?_) (fun hjj => ?_)
   ·refine Qe ?_
    refine QF rfl (fun hq => ?_) (fun hq => ?_)
    ·replace hm := QT hq hm
     refine Qk ?_
     refine Qf ?_
     refine Qb rfl rfl rfl rfl (Qh rfl) ?_
     refine Qe ?_
     refine Qm [2] [] rfl rfl rfl rfl (by rw [hF]; rfl) ?_
     refine QH ?_
     obtain rfl := Qr hm
     refine ⟨[_], [], ⟨rfl, trivial⟩, ?_, rfl, rfl, rfl, rfl⟩
     rfl
    ·replace hm := QS hq hm
     refine QG ?_
     refine Qk ?_
     refine Qk ?_
     refine Qf ?_
     refine Qb rfl rfl rfl rfl (Qj fa69_3 rfl rfl) ?_
     refine Qb rfl rfl rfl rfl (Qg ag67 rfl rfl) ?_
     refine Qb rfl rfl rfl rfl (Q8 Try.underlying67 rfl (List.length_map _)) ?_
     refine Xg (fun _ _ _ hr => RelP.slLen (i := 28) rfl hr) (fun hlen29 => ?_)
     rw [List.length_map] at hlen29
     refine Qb rfl rfl rfl rfl (Qi rfl) ?_
     refine Qe ?_
     refine QV ?_
     refine Qm [1, 28, 29, 30] [11] rfl rfl rfl rfl (by rw [hF]; rfl) ?_
     refine T_loop ?_
     obtain ⟨u0, hl0, hm⟩ := Qw hm
     refine TR_forL2 p0.Points (m_impl_ValidAnnotated_L0 p0) (fun (s0 : Unit) => (.inl ())) (fun n0 (s0 : Unit) => ⟨[(1, .ptr 11 0 0), (28, .sl 2 (List.map Qc p0.Points)), (29, .int .i64 (p0.Points.length : Int)), (30, .int .i64 (n0 : Int))], [(11, .box [.sl 2 (List.map Qa p0.Pre), .sl 2 (List.map Qa p0.Post), .sl 2 (List.map Qd p0.Code), .sl 2 (List.map Qc p0.Points)])]⟩) (fun u0 => match u0 with | .inl u0 => .exit 0 | .inr u0 => .ret) (fun u0 => match u0 with | .inl u0 => ⟨[], []⟩ | .inr u0 => ⟨[(2, .bool u0)], []⟩) (fun u0 => m_impl_ValidAnnotated_A0 u0 = some out) hl0 hm (fun u0 hm => ?_) (fun hx0 s0 hm => ?_) (fun hx0 n0 x0 s0 c0 hxn0 hlt0 hm hc0 => ?_)
     ·rcases u0 with u0 | u0
      ·unfold m_impl_ValidAnnotated_A0 at hm
       refine Qk ?_
       refine Qf ?_
       refine Qb rfl rfl rfl rfl (Qh rfl) ?_
       refine Qe ?_
       refine Qm [2] [] rfl rfl rfl rfl (by rw [hF]; rfl) ?_
       refine QH ?_
       obtain rfl := Qr hm
       refine ⟨[_], [], ⟨rfl, trivial⟩, ?_, rfl, rfl, rfl, rfl⟩
       rfl
      ·unfold m_impl_ValidAnnotated_A0 at hm
       obtain rfl := Qr hm
       refine ⟨[_], [], ⟨rfl, trivial⟩, ?_, rfl, rfl, rfl, rfl⟩
       rfl
     ·refine Qk ?_
      refine Qf ?_
      refine Qb rfl rfl rfl rfl (Xd rfl rfl) ?_
      refine Qe ?_
      refine Qk ?_
      refine T_if_false rfl (decide_eq_false (by simp)) ?_
      refine Qm [] [] rfl rfl rfl rfl (by rw [hF]; rfl) ?_
      refine T_exit ?_
      exact hx0 (.inl ()) hm
     ·unfold m_impl_ValidAnnotated_L0 at hm
      refine Qk ?_
      refine Qf ?_
      refine Qb rfl rfl rfl rfl (Xd rfl rfl) ?_
      refine Qe ?_
      refine Qk ?_
      refine T_if_true rfl (decide_eq_true (Int.ofNat_lt.2 hlt0)) ?_
      refine QG ?_
      refine Qk ?_
      refine QV ?_
      refine Qk ?_
      refine Qf ?_
      refine Qb rfl rfl rfl rfl (Qi rfl) ?_
      refine Qb rfl rfl rfl rfl (op_index_sl el67 rfl rfl rfl (get_map hxn0) rfl) ?_
      refine Qb rfl rfl rfl rfl (Qv ag81 sz81 rfl rfl rfl) ?_
      refine QJ 13 z81 rfl rfl rfl rfl rfl rfl rfl ?_
      refine Qb rfl rfl rfl rfl (Qh rfl) ?_
      refine Qo sz81 rfl rfl rfl rfl rfl rfl rfl rfl rfl ?_
      refine Qe ?_
      refine Qk ?_
      refine T_drawZ [] mix (by kernel_rfl) rfl ?_
      obtain ⟨r37, hr37, hm⟩ := Qw hm
      refine Qn 0 (by kernel_rfl) rfl rfl rfl rfl rfl (Qj fa81_1 rfl rfl) ?_
      refine Qn 1 (by kernel_rfl) rfl rfl rfl rfl rfl (Qg ag66 rfl rfl) ?_
      refine Qs 2 (by kernel_rfl) rfl ?_
      refine QA (ACall.F (F := F) (c_impl_areOver x0.Facts (6 : Int) r37 hr37)) Try.call149 rfl rfl rfl rfl rfl ?_
      refine Qe ?_
      refine Qn 3 (by kernel_rfl) rfl rfl rfl rfl rfl (op_not rfl) ?_
      refine Qn 4 (by kernel_rfl) rfl rfl rfl rfl rfl (Qi rfl) ?_
      refine TZ_split 39 rfl rfl rfl (fun hq => ?_) (fun hq => ?_)
      ·replace hm := QT hq hm
       refine QR 5 (by kernel_rfl) rfl rfl rfl rfl rfl rfl rfl rfl ?_
       refine QR 6 (by kernel_rfl) rfl rfl rfl rfl rfl rfl rfl rfl ?_
       refine QR 7 (by kernel_rfl) rfl rfl rfl rfl rfl rfl rfl rfl ?_
       refine QR 8 (by kernel_rfl) rfl rfl rfl rfl rfl rfl rfl rfl ?_
       refine QR 9 (by kernel_rfl) rfl rfl rfl rfl rfl rfl rfl rfl ?_
       refine Qs 10 (by kernel_rfl) rfl ?_
       refine Qq rfl rfl rfl rfl rfl rfl rfl ?_
       refine Qe ?_
       refine QR 11 (by kernel_rfl) rfl rfl rfl rfl rfl rfl rfl rfl ?_
       refine Qn 12 (by kernel_rfl) rfl rfl rfl rfl rfl (QC rfl rfl) ?_
       refine Qn 13 (by kernel_rfl) rfl rfl rfl rfl rfl (Qi rfl) ?_
       refine QR 14 (by kernel_rfl) rfl rfl rfl rfl rfl rfl rfl rfl ?_
       refine QR 15 (by kernel_rfl) rfl rfl rfl rfl rfl rfl rfl rfl ?_
       refine QR 16 (by kernel_rfl) rfl rfl rfl rfl rfl rfl rfl rfl ?_
       refine Q1 17 (by kernel_rfl) rfl rfl rfl rfl rfl rfl rfl ?_
       refine Q1 18 (by kernel_rfl) rfl rfl rfl rfl rfl rfl rfl ?_
       refine Q1 19 (by kernel_rfl) rfl rfl rfl rfl rfl rfl rfl ?_
       refine Q1 20 (by kernel_rfl) rfl rfl rfl rfl rfl rfl rfl ?_
       refine Q1 21 (by kernel_rfl) rfl rfl rfl rfl rfl rfl rfl ?_
       refine Q1 22 (by kernel_rfl) rfl rfl rfl rfl rfl rfl rfl ?_
       refine Q1 23 (by kernel_rfl) rfl rfl rfl rfl rfl rfl rfl ?_
       refine Q1 24 (by kernel_rfl) rfl rfl rfl rfl rfl rfl rfl ?_
       refine Q1 25 (by kernel_rfl) rfl rfl rfl rfl rfl rfl rfl ?_
       refine Q1 26 (by kernel_rfl) rfl rfl rfl rfl rfl rfl rfl ?_
       refine QR 27 (by kernel_rfl) rfl rfl rfl rfl rfl rfl rfl rfl ?_
       refine Qn 28 (by kernel_rfl) rfl rfl rfl rfl rfl (QC rfl rfl) ?_
       refine QX (by kernel_rfl) ?_
       refine T_cond_true rfl ?_
       refine Qk ?_
       refine Qf ?_
       refine Qb rfl rfl rfl rfl (Qh rfl) ?_
       refine Qe ?_
       refine Qm [2] [] rfl rfl rfl rfl (by rw [hF]; rfl) ?_
       refine QH ?_
       obtain rfl := Qr hm
       have hn := QI hc0
       exact hx0 (.inr false) hn
      ·replace hm := QS hq hm
       obtain ⟨r45, hr45, hm⟩ := Qw hm
       refine QK 5 (by kernel_rfl) rfl rfl rfl rfl rfl rfl rfl (Qj fa81_0 rfl rfl) ?_
       refine QK 6 (by kernel_rfl) rfl rfl rfl rfl rfl rfl rfl (Qg ag2 rfl rfl) ?_
       refine QK 7 (by kernel_rfl) rfl rfl rfl rfl rfl rfl rfl (Qj fa69_2 rfl rfl) ?_
       refine QK 8 (by kernel_rfl) rfl rfl rfl rfl rfl rfl rfl (Qg ag24 rfl rfl) ?_
       refine QK 9 (by kernel_rfl) rfl rfl rfl rfl rfl rfl rfl (Q8 Try.underlying24 rfl (List.length_map _)) ?_
       refine TZ_fact (fun _ _ _ hr => RelP.slLen (i := 43) rfl hr) (fun hlen44 => ?_)
       rw [List.length_map] at hlen44
       refine Qs 10 (by kernel_rfl) rfl ?_
       refine Qx rfl rfl ?_
       refine QA (ACall.F (F := F) (c_impl_isIndex x0.At (p0.Code.length : Int) r45 hr45)) Try.call92 rfl rfl rfl rfl rfl ?_
       refine Qe ?_
       refine QK 11 (by kernel_rfl) rfl rfl rfl rfl rfl rfl rfl (op_not rfl) ?_
       refine Qn 12 (by kernel_rfl) rfl rfl rfl rfl rfl (QB rfl rfl) ?_
       refine Qn 13 (by kernel_rfl) rfl rfl rfl rfl rfl (Qi rfl) ?_
       refine TZ_split 48 rfl rfl rfl (fun hq => ?_) (fun hq => ?_)
       ·replace hm := QT hq hm
        refine QR 14 (by kernel_rfl) rfl rfl rfl rfl rfl rfl rfl rfl ?_
        refine QR 15 (by kernel_rfl) rfl rfl rfl rfl rfl rfl rfl rfl ?_
        refine QR 16 (by kernel_rfl) rfl rfl rfl rfl rfl rfl rfl rfl ?_
        refine Q1 17 (by kernel_rfl) rfl rfl rfl rfl rfl rfl rfl ?_
        refine Q1 18 (by kernel_rfl) rfl rfl rfl rfl rfl rfl rfl ?_
        refine Q1 19 (by kernel_rfl) rfl rfl rfl rfl rfl rfl rfl ?_
        refine Q1 20 (by kernel_rfl) rfl rfl rfl rfl rfl rfl rfl ?_
        refine Q1 21 (by kernel_rfl) rfl rfl rfl rfl rfl rfl rfl ?_
        refine Q1 22 (by kernel_rfl) rfl rfl rfl rfl rfl rfl rfl ?_
        refine Q1 23 (by kernel_rfl) rfl rfl rfl rfl rfl rfl rfl ?_
        refine Q1 24 (by kernel_rfl) rfl rfl rfl rfl rfl rfl rfl ?_
        refine Q1 25 (by kernel_rfl) rfl rfl rfl rfl rfl rfl rfl ?_
        refine Q1 26 (by kernel_rfl) rfl rfl rfl rfl rfl rfl rfl ?_
        refine QR 27 (by kernel_rfl) rfl rfl rfl rfl rfl rfl rfl rfl ?_
        refine Qn 28 (by kernel_rfl) rfl rfl rfl rfl rfl (QC rfl rfl) ?_
        refine QX (by kernel_rfl) ?_
        refine T_cond_true rfl ?_
        refine Qk ?_
        refine Qf ?_
        refine Qb rfl rfl rfl rfl (Qh rfl) ?_
        refine Qe ?_
        refine Qm [2] [] rfl rfl rfl rfl (by rw [hF]; rfl) ?_
        refine QH ?_
        obtain rfl := Qr hm
        have hn := QI hc0
        exact hx0 (.inr false) hn
       ·replace hm := QS hq hm
        refine QK 14 (by kernel_rfl) rfl rfl rfl rfl rfl rfl rfl (Qi rfl) ?_
        refine QK 15 (by kernel_rfl) rfl rfl rfl rfl rfl rfl rfl (op_gtr rfl rfl) ?_
        refine QK 16 (by kernel_rfl) rfl rfl rfl rfl rfl rfl rfl (Qi rfl) ?_
        refine TZ_split 51 rfl rfl rfl (fun hq => ?_) (fun hq => ?_)
        ·replace hm := QT hq hm
         obtain ⟨x56, hx56, hm⟩ := Qw hm
         refine QK 17 (by kernel_rfl) rfl rfl rfl rfl rfl rfl rfl (Qj fa69_3 rfl rfl) ?_
         refine QK 18 (by kernel_rfl) rfl rfl rfl rfl rfl rfl rfl (Qg ag67 rfl rfl) ?_
         refine QK 19 (by kernel_rfl) rfl rfl rfl rfl rfl rfl rfl (Qi rfl) ?_
         refine QK 20 (by kernel_rfl) rfl rfl rfl rfl rfl rfl rfl (op_subW rfl rfl) ?_
         refine QK 21 (by kernel_rfl) rfl rfl rfl rfl rfl rfl rfl (QU el67 rfl rfl hx56 rfl) ?_
         refine QK 22 (by kernel_rfl) rfl rfl rfl rfl rfl rfl rfl (QY (n := 1) fa81_0 rfl rfl rfl) ?_
         refine QK 23 (by kernel_rfl) rfl rfl rfl rfl rfl rfl rfl (Qg ag2 rfl rfl) ?_
         refine QK 24 (by kernel_rfl) rfl rfl rfl rfl rfl rfl rfl (Qj fa81_0 rfl rfl) ?_
         refine QK 25 (by kernel_rfl) rfl rfl rfl rfl rfl rfl rfl (Qg ag2 rfl rfl) ?_
         refine QK 26 (by kernel_rfl) rfl rfl rfl rfl rfl rfl rfl (op_geq rfl rfl) ?_
         refine QK 27 (by kernel_rfl) rfl rfl rfl rfl rfl rfl rfl (QC rfl rfl) ?_
         refine Qn 28 (by kernel_rfl) rfl rfl rfl rfl rfl (QB rfl rfl) ?_
         refine QX (by kernel_rfl) ?_
         refine QF rfl (fun hq => ?_) (fun hq => ?_)
         ·replace hm := QT hq hm
          refine Qk ?_
          refine Qf ?_
          refine Qb rfl rfl rfl rfl (Qh rfl) ?_
          refine Qe ?_
          refine Qm [2] [] rfl rfl rfl rfl (by rw [hF]; rfl) ?_
          refine QH ?_
          obtain rfl := Qr hm
          have hn := QI hc0
          exact hx0 (.inr false) hn
         ·replace hm := QS hq hm
          refine QG ?_
          refine Qf ?_
          refine Qb rfl rfl rfl rfl (op_addN rfl rfl (Nat.lt_of_lt_of_le hlt0 hlen29)) ?_
          refine Qb rfl rfl rfl rfl (Qi rfl) ?_
          refine Qe ?_
          refine Q5 [1, 28, 29, 30] [11] rfl rfl rfl rfl (by rw [hF]; rfl) ?_
          obtain rfl := Qr hm
          have hn := QM hc0
          exact hn _ rfl
        ·replace hm := QS hq hm
         refine QR 17 (by kernel_rfl) rfl rfl rfl rfl rfl rfl rfl rfl ?_
         refine QR 18 (by kernel_rfl) rfl rfl rfl rfl rfl rfl rfl rfl ?_
         refine QR 19 (by kernel_rfl) rfl rfl rfl rfl rfl rfl rfl rfl ?_
         refine QR 20 (by kernel_rfl) rfl rfl rfl rfl rfl rfl rfl rfl ?_
         refine QR 21 (by kernel_rfl) rfl rfl rfl rfl rfl rfl rfl rfl ?_
         refine QR 22 (by kernel_rfl) rfl rfl rfl rfl rfl rfl rfl rfl ?_
         refine QR 23 (by kernel_rfl) rfl rfl rfl rfl rfl rfl rfl rfl ?_
         refine QR 24 (by kernel_rfl) rfl rfl rfl rfl rfl rfl rfl rfl ?_
         refine QR 25 (by kernel_rfl) rfl rfl rfl rfl rfl rfl rfl rfl ?_
         refine QR 26 (by kernel_rfl) rfl rfl rfl rfl rfl rfl rfl rfl ?_
         refine QK 27 (by kernel_rfl) rfl rfl rfl rfl rfl rfl rfl (QB rfl rfl) ?_
         refine Qn 28 (by kernel_rfl) rfl rfl rfl rfl rfl (QB rfl rfl) ?_
         refine QX (by kernel_rfl) ?_
         refine T_cond_false rfl ?_
         refine QG ?_
         refine Qf ?_
         refine Qb rfl rfl rfl rfl (op_addN rfl rfl (Nat.lt_of_lt_of_le hlt0 hlen29)) ?_
         refine Qb rfl rfl rfl rfl (Qi rfl) ?_
         refine Qe ?_
         refine Q5 [1, 28, 29, 30] [11] rfl rfl rfl rfl (by rw [hF]; rfl) ?_
         obtain rfl := Qr hm
         have hn := QM hc0
         exact hn _ rfl
   ·refine TL_split 21 rfl rfl rfl (fun hq => ?_) (fun hq => ?_)
    ·refine Qq rfl rfl rfl rfl rfl rfl rfl ?_
     refine Qq rfl rfl rfl rfl rfl rfl rfl ?_
     refine Qq rfl rfl rfl rfl rfl rfl rfl ?_
     refine Qq rfl rfl rfl rfl rfl rfl rfl ?_
     refine Qb rfl rfl rfl rfl (QC rfl rfl) ?_
     refine TL_keepH [1, 26] [11] rfl rfl rfl rfl (by rw [hF]; rfl) ?_
     exact TL_cast _ (by first | (rw [hq, Bool.true_or]; done) | (rw [hq]; rfl)) (hjj () trivial)
    ·refine Qx rfl rfl ?_
     refine Qb rfl rfl rfl rfl (Qj fa69_3 rfl rfl) ?_
     refine Qx rfl rfl ?_
     refine Qb rfl rfl rfl rfl (Qg ag67 rfl rfl) ?_
     refine Qx rfl rfl ?_
     refine Qb rfl rfl rfl rfl (Q8 Try.underlying67 rfl (List.length_map _)) ?_
     refine Xg (fun _ _ _ hr => RelP.slLen (i := 23) rfl hr) (fun hlen24 => ?_)
     rw [List.length_map] at hlen24
     refine Qx rfl rfl ?_
     refine Qb rfl rfl rfl rfl (op_gtr rfl rfl) ?_
     refine Qb rfl rfl rfl rfl (QB rfl rfl) ?_
     refine TL_keepH [1, 26] [11] rfl rfl rfl rfl (by rw [hF]; rfl) ?_
     exact TL_cast _ (by first | (rw [hq, Bool.false_or]; done) | (rw [hq]; rfl)) (hjj () trivial)
theorem c_impl_copyInts (p0 : List Int) (out : List Int) (hm : m_impl_copyInts p0 = some out) : ACall Try.prog 124 [.sl 1 (List.map a_i64 p0)] [] (.ow 1000) [(1000, .arr ⟨false, true⟩ 1 2 (List.map a_i64 out))] := by
 refine ACall.intro Try.func124 rfl Try.ntmps124 rfl (fun F hF => ?_)
 unfold m_impl_copyInts at hm
 refine Qk ?_
 refine Qf ?_
 refine Qb rfl rfl rfl rfl (Qh rfl) ?_
 refine Qe ?_
 refine Qk ?_
 refine Qf ?_
 refine QE 11 (es := List.map a_i64 ([] : List Int)) el26 z2 rfl rfl rfl rfl rfl rfl rfl rfl rfl ?_
 refine Qb rfl rfl rfl rfl (Qi rfl) ?_
 obtain ⟨q5, hq5, hm⟩ := Qw hm
 refine Xn (f := a_i64) (a := ([] : List Int)) (b := p0) el26 z2 rfl rfl rfl rfl rfl rfl rfl (Q9 hq5) rfl rfl rfl rfl rfl ?_
 refine Qb rfl rfl rfl rfl (Qh rfl) ?_
 refine Qe ?_
 refine Qm [2] [11] rfl rfl rfl rfl (by rw [hF]; rfl) ?_
 refine T_deepen 11 (p' := false) (List.map a_i64 (([] : List Int) ++ p0)) (by rw [hF]; rfl) rfl (ElR.map (f := a_i64) (g := a_i64) (fun _ => ⟨⟨rfl, rfl⟩, trivial⟩) (([] : List Int) ++ p0)) rfl rfl rfl ?_
 refine T_ren [(11, 1000)] rfl rfl rfl (by rw [hF]; rfl) ?_
 refine QH ?_
 obtain rfl := Qr hm
 refine ⟨[_], [1000], ⟨rfl, trivial⟩, ?_, rfl, rfl, rfl, rfl⟩
 rfl
theorem c_impl_Term_own (p0 : Term) (out : Term) (hm : m_impl_Term_own p0 = some out) : ACall Try.prog 159 [.agg [.int .i64 p0.Const, .sl 1 (List.map a_i64 p0.Coeffs)]] [] (.agg [.int .i64 out.Const, .ow 1000]) [(1000, .arr ⟨false, true⟩ 1 2 (List.map a_i64 out.Coeffs))] := by
 refine ACall.intro Try.func159 rfl Try.ntmps159 rfl (fun F hF => ?_)
 unfold m_impl_Term_own at hm
 refine Qk ?_
 refine Qf ?_
 refine TL_box 11 rfl rfl rfl rfl rfl rfl rfl ?_
 refine QJ 12 z184 rfl rfl rfl rfl rfl rfl rfl ?_
 refine Qe ?_
 refine Qk ?_
 refine T_drawZ [6] mix (by kernel_rfl) rfl ?_
 obtain ⟨r7, hr7, hm⟩ := Qw hm
 refine Qn 0 (by kernel_rfl) rfl rfl rfl rfl rfl (Qj fa184_0 rfl rfl) ?_
 refine Qn 1 (by kernel_rfl) rfl rfl rfl rfl rfl (Qg ag2 rfl rfl) ?_
 refine Qn 2 (by kernel_rfl) rfl rfl rfl rfl rfl (Qj fa184_1 rfl rfl) ?_
 refine Qn 3 (by kernel_rfl) rfl rfl rfl rfl rfl (Qg ag26 rfl rfl) ?_
 refine Qs 4 (by kernel_rfl) rfl ?_
 refine Qt [(1000, 14)] (ACall.F (F := F) (c_impl_copyInts p0.Coeffs r7 hr7)) Try.call124 rfl rfl rfl rfl rfl rfl rfl rfl rfl rfl rfl rfl rfl ?_
 refine Qe ?_
 refine Qn 5 (by kernel_rfl) rfl rfl rfl rfl rfl (Q3 pl184 z184 rfl rfl rfl rfl rfl) ?_
 refine Qs 6 (by kernel_rfl) rfl ?_
 refine Qo sz184 rfl rfl rfl rfl rfl rfl rfl rfl rfl ?_
 refine Qe ?_
 refine QX (by kernel_rfl) ?_
 refine Qm [2] [12, 14] rfl rfl rfl rfl (by rw [hF]; rfl) ?_
 refine T_ren [(12, 12), (14, 1000)] rfl rfl rfl (by rw [hF]; rfl) ?_
 refine QH ?_
 obtain rfl := Qr hm
 refine ⟨[_], [1000], ⟨⟨_, _, rfl, rfl, .inr ⟨ag184, _, _, sz184, rfl, rfl⟩⟩, trivial⟩, ?_, rfl, rfl, rfl, rfl⟩
 rfl
theorem Xf (p0 : List Term) (out : List Term) (hm : m_impl_ownTerms p0 = some out) : ACall Try.prog 106 [.sl 2 (List.map Qa p0)] [] (.ow 1000) [(1000, .arr ⟨false, true⟩ 2 184 (List.map Qa out))] := by
 refine ACall.intro Try.func106 rfl Try.ntmps106 rfl (fun F hF => ?_)
 unfold m_impl_ownTerms at hm
 refine Qk ?_
 refine Qf ?_
 refine Qb rfl rfl rfl rfl (Qh rfl) ?_
 refine Qe ?_
 refine Qk ?_
 refine Qf ?_
 refine Qb rfl rfl rfl rfl (Qh rfl) ?_
 refine Qe ?_
 refine Qk ?_
 refine Qk ?_
 refine Qf ?_
 refine Qb rfl rfl rfl rfl (Qi rfl) ?_
 refine Qb rfl rfl rfl rfl (Q8 Try.underlying66 rfl (List.length_map _)) ?_
 refine Xg (fun _ _ _ hr => RelP.slLen (i := 6) rfl hr) (fun hlen7 => ?_)
 rw [List.length_map] at hlen7
 refine Qb rfl rfl rfl rfl (Qi rfl) ?_
 refine Qe ?_
 refine QV ?_
 refine T_ownNil 3 21 ⟨false, true⟩ 184 rfl rfl (sz := 2) rfl rfl rfl ?_
 refine Qm [3, 6, 7, 8] [21] rfl rfl rfl rfl (by rw [hF]; rfl) ?_
 refine T_ren [(21, 70000)] rfl rfl rfl (by rw [hF]; rfl) ?_
 refine T_loop ?_
 obtain ⟨u0, hl0, hm⟩ := Qw hm
 refine TR_forL2 p0 (m_impl_ownTerms_L0) (fun (s0 : List Term) => s0) (fun n0 (s0 : List Term) => ⟨[(3, .ow 70000), (6, .sl 2 (List.map Qa p0)), (7, .int .i64 (p0.length : Int)), (8, .int .i64 (n0 : Int))], [(70000, .arr ⟨false, true⟩ 2 184 (List.map Qa s0))]⟩) (fun u0 => .exit 0) (fun u0 => ⟨[(3, .ow 70000)], [(70000, .arr ⟨false, true⟩ 2 184 (List.map Qa u0))]⟩) (fun u0 => m_impl_ownTerms_A0 u0 = some out) hl0 hm (fun u0 hm => ?_) (fun hx0 s0 hm => ?_) (fun hx0 n0 x0 s0 c0 hxn0 hlt0 hm hc0 => ?_)
 ·unfold m_impl_ownTerms_A0 at hm
  refine Qk ?_
  refine Qf ?_
  refine Qb rfl rfl rfl rfl (Qi rfl) ?_
  refine Qb rfl rfl rfl rfl (Qh rfl) ?_
  refine Qe ?_
  refine Qm [2] [70000] rfl rfl rfl rfl (by rw [hF]; rfl) ?_
  refine T_ren [(70000, 1000)] rfl rfl rfl (by rw [hF]; rfl) ?_
  refine QH ?_
  obtain rfl := Qr hm
  refine ⟨[_], [1000], ⟨rfl, trivial⟩, ?_, rfl, rfl, rfl, rfl⟩
  rfl
 ·refine Qk ?_
  refine Qf ?_
  refine Qb rfl rfl rfl rfl (Xd rfl rfl) ?_
  refine Qe ?_
  refine Qk ?_
  refine T_if_false rfl (decide_eq_false (by simp)) ?_
  refine Qm [3] [70000] rfl rfl rfl rfl (by rw [hF]; rfl) ?_
  refine T_exit ?_
  exact hx0 s0 hm
 ·unfold m_impl_ownTerms_L0 at hm
  refine Qk ?_
  refine Qf ?_
  refine Qb rfl rfl rfl rfl (Xd rfl rfl) ?_
  refine Qe ?_
  refine Qk ?_
  refine T_if_true rfl (decide_eq_true (Int.ofNat_lt.2 hlt0)) ?_
  refine QG ?_
  refine Qk ?_
  refine QV ?_
  refine Qk ?_
  refine Qf ?_
  refine Qb rfl rfl rfl rfl (op_index_sl el66 rfl rfl rfl (get_map hxn0) rfl) ?_
  refine Qb rfl rfl rfl rfl (Qv ag184 sz184 rfl rfl rfl) ?_
  refine QJ 18 z184 rfl rfl rfl rfl rfl rfl rfl ?_
  refine Qo sz184 rfl rfl rfl rfl rfl rfl rfl rfl rfl ?_
  refine Qe ?_
  refine Qf ?_
  refine Qb rfl rfl rfl rfl (Qi rfl) ?_
  refine Qb rfl rfl rfl rfl (Qv ag184 sz184 rfl rfl rfl) ?_
  obtain ⟨r14, hr14, hm⟩ := Qw hm
  refine Qt [(1000, 19)] (ACall.F (F := F) (c_impl_Term_own x0 r14 hr14)) Try.call159 rfl rfl rfl rfl rfl rfl rfl rfl rfl rfl rfl rfl rfl ?_
  refine Q6 (ids := [19]) (es := List.map Qa [r14]) 20 el66 z184 rfl rfl rfl rfl rfl rfl (by rw [hF]; intro j hj; simp only [List.mem_cons, List.not_mem_nil, or_false] at hj; rcases hj with rfl <;> rfl) rfl rfl rfl rfl rfl rfl ?_
  obtain ⟨q16, hq16, hm⟩ := Qw hm
  refine TL_appendDT (f := Qa) (a := s0) (b := [r14]) el66 z184 rfl rfl rfl rfl rfl rfl rfl rfl (by rw [hF]; rfl) (Q9 hq16) rfl rfl rfl rfl rfl ?_
  refine Qb rfl rfl rfl rfl (Qh rfl) ?_
  refine Qe ?_
  refine Qf ?_
  refine Qb rfl rfl rfl rfl (op_addN rfl rfl (Nat.lt_of_lt_of_le hlt0 hlen7)) ?_
  refine Qb rfl rfl rfl rfl (Qi rfl) ?_
  refine Qe ?_
  refine Q5 [3, 6, 7, 8] [70000] rfl rfl rfl rfl (by rw [hF]; rfl) ?_
  obtain rfl := Qr hm
  have hn := QM hc0
  exact hn _ rfl
theorem Xi (p0 : List Instr) (out : List Instr) (hm : Xk p0 = some out) : ACall Try.prog 150 [.sl 2 (List.map Qd p0)] [] (.ow 1000) [(1000, .arr ⟨false, true⟩ 2 40 (List.map Qd out))] := by
 refine ACall.intro Try.func150 rfl Try.ntmps150 rfl (fun F hF => ?_)
 unfold Xk at hm
 refine Qk ?_
 refine Qf ?_
 refine Qb rfl rfl rfl rfl (Qh rfl) ?_
 refine Qe ?_
 refine Qk ?_
 refine Qk ?_
 refine Qf ?_
 refine Qb rfl rfl rfl rfl (Qi rfl) ?_
 refine TL_eqNil Try.underlying24 rfl rfl rfl rfl rfl (fun hE => ?_) ?_
 ·have hE := List.map_eq_nil_iff.1 hE
  rw [hE] at hm
  replace hm : some ([] : List Instr) = some out := hm
  refine Qe ?_
  refine T_cond_true rfl ?_
  refine Qk ?_
  refine Qf ?_
  refine Qb rfl rfl rfl rfl (Qh rfl) ?_
  refine Qe ?_
  refine T_ownNil 2 11 ⟨false, true⟩ 40 rfl rfl (sz := 2) rfl rfl rfl ?_
  refine Qm [2] [11] rfl rfl rfl rfl (by rw [hF]; rfl) ?_
  refine T_ren [(11, 1000)] rfl rfl rfl (by rw [hF]; rfl) ?_
  refine QH ?_
  obtain rfl := Qr hm
  refine ⟨[_], [1000], ⟨rfl, trivial⟩, ?_, rfl, rfl, rfl, rfl⟩
  rfl
 ·refine Qe ?_
  refine T_cond_false rfl ?_
  refine QG ?_
  refine Qk ?_
  refine Qf ?_
  refine QE 12 (es := List.map Qd ([] : List Instr)) el24 z40 rfl rfl rfl rfl rfl rfl rfl rfl rfl ?_
  refine Qb rfl rfl rfl rfl (Qi rfl) ?_
  obtain ⟨q7, hq7, hm⟩ := Qw hm
  refine Xn (f := Qd) (a := ([] : List Instr)) (b := p0) el24 z40 rfl rfl rfl rfl rfl rfl rfl (Q9 hq7) rfl rfl rfl rfl rfl ?_
  refine Qb rfl rfl rfl rfl (Qh rfl) ?_
  refine Qe ?_
  refine Qm [2] [12] rfl rfl rfl rfl (by rw [hF]; rfl) ?_
  refine T_deepen 12 (p' := false) (List.map Qd (([] : List Instr) ++ p0)) (by rw [hF]; rfl) rfl (ElR.map (f := Qd) (g := Qd) (fun _ => ⟨⟨rfl, rfl⟩, ⟨⟨rfl, rfl⟩, trivial⟩⟩) (([] : List Instr) ++ p0)) rfl rfl rfl ?_
  refine T_ren [(12, 1000)] rfl rfl rfl (by rw [hF]; rfl) ?_
  refine QH ?_
  obtain rfl := Qr hm
  refine ⟨[_], [1000], ⟨rfl, trivial⟩, ?_, rfl, rfl, rfl, rfl⟩
  rfl
theorem c_impl_Annotated_own (p0 : Annotated) (out : Annotated) (hm : m_impl_Annotated_own p0 = some out) : ACall Try.prog 90 [.agg [.sl 2 (List.map Qa p0.Pre), .sl 2 (List.map Qa p0.Post), .sl 2 (List.map Qd p0.Code), .sl 2 (List.map Qc p0.Points)]] [] (.agg [.ow 1000, .ow 1001, .ow 1002, .ow 1003]) [(1000, .arr ⟨false, true⟩ 2 184 (List.map Qa out.Pre)), (1001, .arr ⟨false, true⟩ 2 184 (List.map Qa out.Post)), (1002, .arr ⟨false, true⟩ 2 40 (List.map Qd out.Code)), (1003, .arr ⟨false, true⟩ 2 81 (List.map Qc out.Points))] := by
 refine ACall.intro Try.func90 rfl Try.ntmps90 rfl (fun F hF => ?_)
 unfold m_impl_Annotated_own at hm
 refine Qk ?_
 refine Qf ?_
 refine TL_box 11 rfl rfl rfl rfl rfl rfl rfl ?_
 refine QJ 12 z69 rfl rfl rfl rfl rfl rfl rfl ?_
 refine Qe ?_
 refine T_join (fun (j0 : (List Term) × (List Term) × (List Instr)) => ⟨[(1, .ptr 11 0 0), (2, .ptr 12 0 0), (3, .ptr 893 0 0)], [(11, .box [.sl 2 (List.map Qa p0.Pre), .sl 2 (List.map Qa p0.Post), .sl 2 (List.map Qd p0.Code), .sl 2 (List.map Qc p0.Points)]), (12, .box [.snil, .snil, .snil, .snil]), (253, .arr ⟨false, true⟩ 2 184 (List.map Qa j0.1)), (493, .arr ⟨false, true⟩ 2 184 (List.map Qa j0.2.1)), (733, .arr ⟨false, true⟩ 2 40 (List.map Qd j0.2.2)), (893, .box [.ow 253, .ow 493, .ow 733, .snil])]⟩) (fun j0 => m_impl_Annotated_own_J0 p0 j0 = some out) (fun j0 hm => ?_) (fun hj0 => ?_)
 ·unfold m_impl_Annotated_own_J0 at hm
  refine Qk ?_
  refine Qk ?_
  refine Qf ?_
  refine Qb rfl rfl rfl rfl (Qj fa69_3 rfl rfl) ?_
  refine Qb rfl rfl rfl rfl (Qg ag67 rfl rfl) ?_
  refine Qb rfl rfl rfl rfl (Q8 Try.underlying67 rfl (List.length_map _)) ?_
  refine Xg (fun _ _ _ hr => RelP.slLen (i := 17) rfl hr) (fun hlen18 => ?_)
  rw [List.length_map] at hlen18
  refine Qb rfl rfl rfl rfl (Qi rfl) ?_
  refine Qe ?_
  refine QV ?_
  refine T_ownNilBox 893 3 3856 ⟨false, true⟩ 81 rfl rfl rfl (sz := 2) rfl rfl rfl rfl ?_
  refine Qm [2, 3, 17, 18, 19] [12, 253, 493, 733, 893, 3856] rfl rfl rfl rfl (by rw [hF]; rfl) ?_
  refine T_ren [(12, 12), (253, 253), (493, 493), (733, 733), (893, 893), (3856, 70005)] rfl rfl rfl (by rw [hF]; rfl) ?_
  refine T_loop ?_
  obtain ⟨u0, hl0, hm⟩ := Qw hm
  refine TR_forL2 p0.Points (m_impl_Annotated_own_L0) (fun (s0 : List Point) => s0) (fun n0 (s0 : List Point) => ⟨[(2, .ptr 12 0 0), (3, .ptr 893 0 0), (17, .sl 2 (List.map Qc p0.Points)), (18, .int .i64 (p0.Points.length : Int)), (19, .int .i64 (n0 : Int))], [(12, .box [.snil, .snil, .snil, .snil]), (253, .arr ⟨false, true⟩ 2 184 (List.map Qa j0.1)), (493, .arr ⟨false, true⟩ 2 184 (List.map Qa j0.2.1)), (733, .arr ⟨false, true⟩ 2 40 (List.map Qd j0.2.2)), (893, .box [.ow 253, .ow 493, .ow 733, .ow 70005]), (70005, .arr ⟨false, true⟩ 2 81 (List.map Qc s0))]⟩) (fun u0 => .exit 0) (fun u0 => ⟨[(2, .ptr 12 0 0), (3, .ptr 893 0 0)], [(12, .box [.snil, .snil, .snil, .snil]), (253, .arr ⟨false, true⟩ 2 184 (List.map Qa j0.1)), (493, .arr ⟨false, true⟩ 2 184 (List.map Qa j0.2.1)), (733, .arr ⟨false, true⟩ 2 40 (List.map Qd j0.2.2)), (893, .box [.ow 253, .ow 493, .ow 733, .ow 70005]), (70005, .arr ⟨false, true⟩ 2 81 (List.map Qc u0))]⟩) (fun u0 => m_impl_Annotated_own_A0 j0 u0 = some out) hl0 hm (fun u0 hm => ?_) (fun hx0 s0 hm => ?_) (fun hx0 n0 x0 s0 c0 hxn0 hlt0 hm hc0 => ?_)
  ·unfold m_impl_Annotated_own_A0 at hm
   refine Qk ?_
   refine Qf ?_
   refine Qb rfl rfl rfl rfl (Qv ag69 sz69 rfl rfl rfl) ?_
   refine Qo sz69 rfl rfl rfl rfl rfl rfl rfl rfl rfl ?_
   refine Qe ?_
   refine Qm [2] [12, 253, 493, 733, 70005] rfl rfl rfl rfl (by rw [hF]; rfl) ?_
   refine T_ren [(12, 12), (253, 1000), (493, 1001), (733, 1002), (70005, 1003)] rfl rfl rfl (by rw [hF]; rfl) ?_
   refine QH ?_
   obtain rfl := Qr hm
   refine ⟨[_], [1000, 1001, 1002, 1003], ⟨⟨_, _, rfl, rfl, .inr ⟨ag69, _, _, sz69, rfl, rfl⟩⟩, trivial⟩, ?_, rfl, rfl, rfl, rfl⟩
   rfl
  ·refine Qk ?_
   refine Qf ?_
   refine Qb rfl rfl rfl rfl (Xd rfl rfl) ?_
   refine Qe ?_
   refine Qk ?_
   refine T_if_false rfl (decide_eq_false (by simp)) ?_
   refine Qm [2, 3] [12, 253, 493, 733, 893, 70005] rfl rfl rfl rfl (by rw [hF]; rfl) ?_
   refine T_exit ?_
   exact hx0 s0 hm
  ·unfold m_impl_Annotated_own_L0 at hm
   refine Qk ?_
   refine Qf ?_
   refine Qb rfl rfl rfl rfl (Xd rfl rfl) ?_
   refine Qe ?_
   refine Qk ?_
   refine T_if_true rfl (decide_eq_true (Int.ofNat_lt.2 hlt0)) ?_
   refine QG ?_
   refine Qk ?_
   refine QV ?_
   refine Qk ?_
   refine Qf ?_
   refine Qb rfl rfl rfl rfl (op_index_sl el67 rfl rfl rfl (get_map hxn0) rfl) ?_
   refine Qb rfl rfl rfl rfl (Qv ag81 sz81 rfl rfl rfl) ?_
   refine QJ 2895 z81 rfl rfl rfl rfl rfl rfl rfl ?_
   refine Qo sz81 rfl rfl rfl rfl rfl rfl rfl rfl rfl ?_
   refine Qe ?_
   refine T_drawZ [8, 9, 11] mix (by kernel_rfl) rfl ?_
   obtain ⟨r29, hr29, hm⟩ := Qw hm
   obtain ⟨q32, hq32, hm⟩ := Qw hm
   refine Qn 0 (by kernel_rfl) rfl rfl rfl rfl rfl (Qj fa69_3 rfl rfl) ?_
   refine Qn 2 (by kernel_rfl) rfl rfl rfl rfl rfl (Qj fa81_0 rfl rfl) ?_
   refine Qn 4 (by kernel_rfl) rfl rfl rfl rfl rfl (Qj fa81_1 rfl rfl) ?_
   refine Qy 7 [true, true, true, true, true, false, false, false, false, false, false, false] ⟨[(2, .ptr 12 0 0), (3, .ptr 893 0 0), (5, .ptr 2895 0 0), (17, .sl 2 (List.map Qc p0.Points)), (18, .int .i64 (p0.Points.length : Int)), (19, .int .i64 (n0 : Int)), (20, .bool (decide ((n0 : Int) < (p0.Points.length : Int)))), (21, .cp [.int .i64 x0.At, .sl 2 (List.map Qa x0.Facts)]), (22, .agg [.int .i64 x0.At, .sl 2 (List.map Qa x0.Facts)]), (23, .ptr 893 0 3), (24, .ow 70005), (25, .ptr 2895 0 0), (26, .int .i64 x0.At), (27, .ptr 2895 0 1)], [(12, .box [.snil, .snil, .snil, .snil]), (253, .arr ⟨false, true⟩ 2 184 (List.map Qa j0.1)), (493, .arr ⟨false, true⟩ 2 184 (List.map Qa j0.2.1)), (733, .arr ⟨false, true⟩ 2 40 (List.map Qd j0.2.2)), (893, .box [.ow 253, .ow 493, .ow 733, .ow 70005]), (2895, .box [.int .i64 x0.At, .sl 2 (List.map Qa x0.Facts)]), (70005, .arr ⟨false, true⟩ 2 81 (List.map Qc s0))]⟩ ?_ (fun hS2895_0 => ?_)
   ·refine Qs 5 (by kernel_rfl) rfl ?_
    refine Qb rfl rfl rfl rfl (Qg ag66 rfl rfl) ?_
    refine Qe ?_
    refine Qs 6 (by kernel_rfl) rfl ?_
    refine Qt [(1000, 3456)] (ACall.F (F := F) (Xf x0.Facts r29 hr29)) Try.call106 rfl rfl rfl rfl rfl rfl rfl rfl rfl rfl rfl rfl rfl ?_
    refine Qe ?_
    refine Qn 7 (by kernel_rfl) rfl rfl rfl rfl rfl (Q3 pl81 z81 rfl rfl rfl rfl rfl) ?_
    refine Qs 8 (by kernel_rfl) rfl ?_
    refine Q6 (ids := [3456]) (es := List.map Qc [(Point.mk x0.At r29)]) 3616 el67 z81 rfl rfl rfl rfl rfl rfl (by rw [hF]; intro j hj; simp only [List.mem_cons, List.not_mem_nil, or_false] at hj; rcases hj with rfl <;> rfl) rfl rfl rfl rfl rfl rfl ?_
    refine Qe ?_
    refine Qs 9 (by kernel_rfl) rfl ?_
    refine TL_appendDT (f := Qc) (a := s0) (b := [(Point.mk x0.At r29)]) el67 z81 rfl rfl rfl rfl rfl rfl rfl rfl (by rw [hF]; rfl) (Q9 hq32) rfl rfl rfl rfl rfl ?_
    refine Qe ?_
    refine Qn 10 (by kernel_rfl) rfl rfl rfl rfl rfl (Qj fa69_3 rfl rfl) ?_
    refine Qs 11 (by kernel_rfl) rfl ?_
    refine Qo sz67 rfl rfl rfl rfl rfl rfl rfl rfl rfl ?_
    refine Qe ?_
    refine QX (by kernel_rfl) ?_
    refine Qf ?_
    refine Qb rfl rfl rfl rfl (op_addN rfl rfl (Nat.lt_of_lt_of_le hlt0 hlen18)) ?_
    refine Qb rfl rfl rfl rfl (Qi rfl) ?_
    refine Qe ?_
    refine Q5 [2, 3, 17, 18, 19] [12, 253, 493, 733, 893, 70005] rfl rfl rfl rfl (by rw [hF]; rfl) ?_
    obtain rfl := Qr hm
    have hn := QM hc0
    exact hn _ rfl
   refine Qy 6 [true, true, true, true, true, true, false, false, false, false, false, false] ⟨[(2, .ptr 12 0 0), (3, .ptr 893 0 0), (5, .ptr 2895 0 0), (17, .sl 2 (List.map Qc p0.Points)), (18, .int .i64 (p0.Points.length : Int)), (19, .int .i64 (n0 : Int)), (20, .bool (decide ((n0 : Int) < (p0.Points.length : Int)))), (21, .cp [.int .i64 x0.At, .sl 2 (List.map Qa x0.Facts)]), (22, .agg [.int .i64 x0.At, .sl 2 (List.map Qa x0.Facts)]), (23, .ptr 893 0 3), (24, .ow 70005), (25, .ptr 2895 0 0), (26, .int .i64 x0.At), (27, .ptr 2895 0 1), (28, .sl 2 (List.map Qa x0.Facts))], [(12, .box [.snil, .snil, .snil, .snil]), (253, .arr ⟨false, true⟩ 2 184 (List.map Qa j0.1)), (493, .arr ⟨false, true⟩ 2 184 (List.map Qa j0.2.1)), (733, .arr ⟨false, true⟩ 2 40 (List.map Qd j0.2.2)), (893, .box [.ow 253, .ow 493, .ow 733, .ow 70005]), (2895, .box [.int .i64 x0.At, .sl 2 (List.map Qa x0.Facts)]), (70005, .arr ⟨false, true⟩ 2 81 (List.map Qc s0))]⟩ ?_ (fun hS2895_1 => ?_)
   ·refine Qs 6 (by kernel_rfl) rfl ?_
    refine Qt [(1000, 3456)] (ACall.F (F := F) (Xf x0.Facts r29 hr29)) Try.call106 rfl rfl rfl rfl rfl rfl rfl rfl rfl rfl rfl rfl rfl ?_
    refine Qe ?_
    refine Qn 7 (by kernel_rfl) rfl rfl rfl rfl rfl (Q3 pl81 z81 rfl rfl rfl rfl rfl) ?_
    refine Qs 8 (by kernel_rfl) rfl ?_
    refine Q6 (ids := [3456]) (es := List.map Qc [(Point.mk x0.At r29)]) 3616 el67 z81 rfl rfl rfl rfl rfl rfl (by rw [hF]; intro j hj; simp only [List.mem_cons, List.not_mem_nil, or_false] at hj; rcases hj with rfl <;> rfl) rfl rfl rfl rfl rfl rfl ?_
    refine Qe ?_
    refine Qs 9 (by kernel_rfl) rfl ?_
    refine TL_appendDT (f := Qc) (a := s0) (b := [(Point.mk x0.At r29)]) el67 z81 rfl rfl rfl rfl rfl rfl rfl rfl (by rw [hF]; rfl) (Q9 hq32) rfl rfl rfl rfl rfl ?_
    refine Qe ?_
    refine Qn 10 (by kernel_rfl) rfl rfl rfl rfl rfl (Qj fa69_3 rfl rfl) ?_
    refine Qs 11 (by kernel_rfl) rfl ?_
    refine Qo sz67 rfl rfl rfl rfl rfl rfl rfl rfl rfl ?_
    refine Qe ?_
    refine QX (by kernel_rfl) ?_
    refine Qf ?_
    refine Qb rfl rfl rfl rfl (op_addN rfl rfl (Nat.lt_of_lt_of_le hlt0 hlen18)) ?_
    refine Qb rfl rfl rfl rfl (Qi rfl) ?_
    refine Qe ?_
    refine Q5 [2, 3, 17, 18, 19] [12, 253, 493, 733, 893, 70005] rfl rfl rfl rfl (by rw [hF]; rfl) ?_
    obtain rfl := Qr hm
    have hn := QM hc0
    exact hn _ rfl
   refine Qy 6 [true, true, true, false, true, true, true, false, false, false, false, false] ⟨[(2, .ptr 12 0 0), (3, .ptr 893 0 0), (5, .ptr 2895 0 0), (17, .sl 2 (List.map Qc p0.Points)), (18, .int .i64 (p0.Points.length : Int)), (19, .int .i64 (n0 : Int)), (20, .bool (decide ((n0 : Int) < (p0.Points.length : Int)))), (21, .cp [.int .i64 x0.At, .sl 2 (List.map Qa x0.Facts)]), (22, .agg [.int .i64 x0.At, .sl 2 (List.map Qa x0.Facts)]), (23, .ptr 893 0 3), (24, .ow 70005), (25, .ptr 2895 0 0), (27, .ptr 2895 0 1), (28, .sl 2 (List.map Qa x0.Facts)), (29, .ow 3456)], [(12, .box [.snil, .snil, .snil, .snil]), (253, .arr ⟨false, true⟩ 2 184 (List.map Qa j0.1)), (493, .arr ⟨false, true⟩ 2 184 (List.map Qa j0.2.1)), (733, .arr ⟨false, true⟩ 2 40 (List.map Qd j0.2.2)), (893, .box [.ow 253, .ow 493, .ow 733, .ow 70005]), (2895, .box [.int .i64 x0.At, .sl 2 (List.map Qa x0.Facts)]), (3456, .arr ⟨false, true⟩ 2 184 (List.map Qa r29)), (70005, .arr ⟨false, true⟩ 2 81 (List.map Qc s0))]⟩ ?_ (fun hS2895_2 => ?_)
   ·refine Qs 3 (by kernel_rfl) rfl ?_
    refine Qb rfl rfl rfl rfl (Qg ag2 rfl rfl) ?_
    refine Qe ?_
    refine Qn 7 (by kernel_rfl) rfl rfl rfl rfl rfl (Q3 pl81 z81 rfl rfl rfl rfl rfl) ?_
    refine Qs 8 (by kernel_rfl) rfl ?_
    refine Q6 (ids := [3456]) (es := List.map Qc [(Point.mk x0.At r29)]) 3616 el67 z81 rfl rfl rfl rfl rfl rfl (by rw [hF]; intro j hj; simp only [List.mem_cons, List.not_mem_nil, or_false] at hj; rcases hj with rfl <;> rfl) rfl rfl rfl rfl rfl rfl ?_
    refine Qe ?_
    refine Qs 9 (by kernel_rfl) rfl ?_
    refine TL_appendDT (f := Qc) (a := s0) (b := [(Point.mk x0.At r29)]) el67 z81 rfl rfl rfl rfl rfl rfl rfl rfl (by rw [hF]; rfl) (Q9 hq32) rfl rfl rfl rfl rfl ?_
    refine Qe ?_
    refine Qn 10 (by kernel_rfl) rfl rfl rfl rfl rfl (Qj fa69_3 rfl rfl) ?_
    refine Qs 11 (by kernel_rfl) rfl ?_
    refine Qo sz67 rfl rfl rfl rfl rfl rfl rfl rfl rfl ?_
    refine Qe ?_
    refine QX (by kernel_rfl) ?_
    refine Qf ?_
    refine Qb rfl rfl rfl rfl (op_addN rfl rfl (Nat.lt_of_lt_of_le hlt0 hlen18)) ?_
    refine Qb rfl rfl rfl rfl (Qi rfl) ?_
    refine Qe ?_
    refine Q5 [2, 3, 17, 18, 19] [12, 253, 493, 733, 893, 70005] rfl rfl rfl rfl (by rw [hF]; rfl) ?_
    obtain rfl := Qr hm
    have hn := QM hc0
    exact hn _ rfl
   refine Qy 7 [true, true, true, false, true, true, false, false, false, false, false, false] ⟨[(2, .ptr 12 0 0), (3, .ptr 893 0 0), (5, .ptr 2895 0 0), (17, .sl 2 (List.map Qc p0.Points)), (18, .int .i64 (p0.Points.length : Int)), (19, .int .i64 (n0 : Int)), (20, .bool (decide ((n0 : Int) < (p0.Points.length : Int)))), (21, .cp [.int .i64 x0.At, .sl 2 (List.map Qa x0.Facts)]), (22, .agg [.int .i64 x0.At, .sl 2 (List.map Qa x0.Facts)]), (23, .ptr 893 0 3), (24, .ow 70005), (25, .ptr 2895 0 0), (27, .ptr 2895 0 1), (28, .sl 2 (List.map Qa x0.Facts))], [(12, .box [.snil, .snil, .snil, .snil]), (253, .arr ⟨false, true⟩ 2 184 (List.map Qa j0.1)), (493, .arr ⟨false, true⟩ 2 184 (List.map Qa j0.2.1)), (733, .arr ⟨false, true⟩ 2 40 (List.map Qd j0.2.2)), (893, .box [.ow 253, .ow 493, .ow 733, .ow 70005]), (2895, .box [.int .i64 x0.At, .sl 2 (List.map Qa x0.Facts)]), (70005, .arr ⟨false, true⟩ 2 81 (List.map Qc s0))]⟩ ?_ (fun hS2895_3 => ?_)
   ·refine Qz [3, 6] (by kernel_rfl) rfl ?_
    refine ⟨?_, ?_⟩
    ·refine ⟨_, rfl, ?_⟩
     refine Qb rfl rfl rfl rfl (Qg ag2 rfl rfl) ?_
     refine Qe ?_
     refine Ql [2, 3, 5, 17, 18, 19, 20, 21, 22, 23, 24, 25, 26, 27, 28] [12, 253, 493, 733, 893, 2895, 70005] rfl rfl rfl rfl (by rw [hF]; rfl) ?_
     exact hS2895_1
    ·refine ⟨_, rfl, ?_⟩
     refine Qt [(1000, 3456)] (ACall.F (F := F) (Xf x0.Facts r29 hr29)) Try.call106 rfl rfl rfl rfl rfl rfl rfl rfl rfl rfl rfl rfl rfl ?_
     refine Qe ?_
     refine Ql [2, 3, 5, 17, 18, 19, 20, 21, 22, 23, 24, 25, 27, 28, 29] [12, 253, 493, 733, 893, 2895, 3456, 70005] rfl rfl rfl rfl (by rw [hF]; rfl) ?_
     exact hS2895_2
   refine Qy 8 [true, true, true, false, true, false, false, false, false, false, false, false] ⟨[(2, .ptr 12 0 0), (3, .ptr 893 0 0), (5, .ptr 2895 0 0), (17, .sl 2 (List.map Qc p0.Points)), (18, .int .i64 (p0.Points.length : Int)), (19, .int .i64 (n0 : Int)), (20, .bool (decide ((n0 : Int) < (p0.Points.length : Int)))), (21, .cp [.int .i64 x0.At, .sl 2 (List.map Qa x0.Facts)]), (22, .agg [.int .i64 x0.At, .sl 2 (List.map Qa x0.Facts)]), (23, .ptr 893 0 3), (24, .ow 70005), (25, .ptr 2895 0 0), (27, .ptr 2895 0 1)], [(12, .box [.snil, .snil, .snil, .snil]), (253, .arr ⟨false, true⟩ 2 184 (List.map Qa j0.1)), (493, .arr ⟨false, true⟩ 2 184 (List.map Qa j0.2.1)), (733, .arr ⟨false, true⟩ 2 40 (List.map Qd j0.2.2)), (893, .box [.ow 253, .ow 493, .ow 733, .ow 70005]), (2895, .box [.int .i64 x0.At, .sl 2 (List.map Qa x0.Facts)]), (70005, .arr ⟨false, true⟩ 2 81 (List.map Qc s0))]⟩ ?_ (fun hS2895_4 => ?_)
   ·refine Qz [3, 5] (by kernel_rfl) rfl ?_
    refine ⟨?_, ?_⟩
    ·refine ⟨_, rfl, ?_⟩
     refine Qb rfl rfl rfl rfl (Qg ag2 rfl rfl) ?_
     refine Qe ?_
     refine Ql [2, 3, 5, 17, 18, 19, 20, 21, 22, 23, 24, 25, 26, 27] [12, 253, 493, 733, 893, 2895, 70005] rfl rfl rfl rfl (by rw [hF]; rfl) ?_
     exact hS2895_0
    ·refine ⟨_, rfl, ?_⟩
     refine Qb rfl rfl rfl rfl (Qg ag66 rfl rfl) ?_
     refine Qe ?_
     refine Ql [2, 3, 5, 17, 18, 19, 20, 21, 22, 23, 24, 25, 27, 28] [12, 253, 493, 733, 893, 2895, 70005] rfl rfl rfl rfl (by rw [hF]; rfl) ?_
     exact hS2895_3
   refine Qy 4 [true, true, true, true, true, true, true, true, false, false, false, false] ⟨[(2, .ptr 12 0 0), (3, .ptr 893 0 0), (5, .ptr 2895 0 0), (17, .sl 2 (List.map Qc p0.Points)), (18, .int .i64 (p0.Points.length : Int)), (19, .int .i64 (n0 : Int)), (20, .bool (decide ((n0 : Int) < (p0.Points.length : Int)))), (21, .cp [.int .i64 x0.At, .sl 2 (List.map Qa x0.Facts)]), (22, .agg [.int .i64 x0.At, .sl 2 (List.map Qa x0.Facts)]), (23, .ptr 893 0 3), (24, .ow 70005), (25, .ptr 2895 0 0), (26, .int .i64 x0.At), (27, .ptr 2895 0 1), (28, .sl 2 (List.map Qa x0.Facts)), (29, .ow 3456), (30, .agg [.int .i64 x0.At, .ow 3456])], [(12, .box [.snil, .snil, .snil, .snil]), (253, .arr ⟨false, true⟩ 2 184 (List.map Qa j0.1)), (493, .arr ⟨false, true⟩ 2 184 (List.map Qa j0.2.1)), (733, .arr ⟨false, true⟩ 2 40 (List.map Qd j0.2.2)), (893, .box [.ow 253, .ow 493, .ow 733, .ow 70005]), (2895, .box [.int .i64 x0.At, .sl 2 (List.map Qa x0.Facts)]), (3456, .arr ⟨false, true⟩ 2 184 (List.map Qa r29)), (70005, .arr ⟨false, true⟩ 2 81 (List.map Qc s0))]⟩ ?_ (fun hS2895_5 => ?_)
   ·refine Qs 8 (by kernel_rfl) rfl ?_
    refine Q6 (ids := [3456]) (es := List.map Qc [(Point.mk x0.At r29)]) 3616 el67 z81 rfl rfl rfl rfl rfl rfl (by rw [hF]; intro j hj; simp only [List.mem_cons, List.not_mem_nil, or_false] at hj; rcases hj with rfl <;> rfl) rfl rfl rfl rfl rfl rfl ?_
    refine Qe ?_
    refine Qs 9 (by kernel_rfl) rfl ?_
    refine TL_appendDT (f := Qc) (a := s0) (b := [(Point.mk x0.At r29)]) el67 z81 rfl rfl rfl rfl rfl rfl rfl rfl (by rw [hF]; rfl) (Q9 hq32) rfl rfl rfl rfl rfl ?_
    refine Qe ?_
    refine Qn 10 (by kernel_rfl) rfl rfl rfl rfl rfl (Qj fa69_3 rfl rfl) ?_
    refine Qs 11 (by kernel_rfl) rfl ?_
    refine Qo sz67 rfl rfl rfl rfl rfl rfl rfl rfl rfl ?_
    refine Qe ?_
    refine QX (by kernel_rfl) ?_
    refine Qf ?_
    refine Qb rfl rfl rfl rfl (op_addN rfl rfl (Nat.lt_of_lt_of_le hlt0 hlen18)) ?_
    refine Qb rfl rfl rfl rfl (Qi rfl) ?_
    refine Qe ?_
    refine Q5 [2, 3, 17, 18, 19] [12, 253, 493, 733, 893, 70005] rfl rfl rfl rfl (by rw [hF]; rfl) ?_
    obtain rfl := Qr hm
    have hn := QM hc0
    exact hn _ rfl
   refine Qy 4 [true, false, true, true, true, true, true, true, true, false, false, false] ⟨[(2, .ptr 12 0 0), (3, .ptr 893 0 0), (5, .ptr 2895 0 0), (17, .sl 2 (List.map Qc p0.Points)), (18, .int .i64 (p0.Points.length : Int)), (19, .int .i64 (n0 : Int)), (20, .bool (decide ((n0 : Int) < (p0.Points.length : Int)))), (21, .cp [.int .i64 x0.At, .sl 2 (List.map Qa x0.Facts)]), (22, .agg [.int .i64 x0.At, .sl 2 (List.map Qa x0.Facts)]), (23, .ptr 893 0 3), (25, .ptr 2895 0 0), (26, .int .i64 x0.At), (27, .ptr 2895 0 1), (28, .sl 2 (List.map Qa x0.Facts)), (29, .junk), (30, .junk), (31, .ow 3616)], [(12, .box [.snil, .snil, .snil, .snil]), (253, .arr ⟨false, true⟩ 2 184 (List.map Qa j0.1)), (493, .arr ⟨false, true⟩ 2 184 (List.map Qa j0.2.1)), (733, .arr ⟨false, true⟩ 2 40 (List.map Qd j0.2.2)), (893, .box [.ow 253, .ow 493, .ow 733, .ow 70005]), (2895, .box [.int .i64 x0.At, .sl 2 (List.map Qa x0.Facts)]), (3616, .arr ⟨false, true⟩ 2 81 (List.map Qc [(Point.mk x0.At r29)])), (70005, .arr ⟨false, true⟩ 2 81 (List.map Qc s0))]⟩ ?_ (fun hS2895_6 => ?_)
   ·refine Qn 1 (by kernel_rfl) rfl rfl rfl rfl rfl (Qg ag67 rfl rfl) ?_
    refine Qs 9 (by kernel_rfl) rfl ?_
    refine TL_appendDT (f := Qc) (a := s0) (b := [(Point.mk x0.At r29)]) el67 z81 rfl rfl rfl rfl rfl rfl rfl rfl (by rw [hF]; rfl) (Q9 hq32) rfl rfl rfl rfl rfl ?_
    refine Qe ?_
    refine Qn 10 (by kernel_rfl) rfl rfl rfl rfl rfl (Qj fa69_3 rfl rfl) ?_
    refine Qs 11 (by kernel_rfl) rfl ?_
    refine Qo sz67 rfl rfl rfl rfl rfl rfl rfl rfl rfl ?_
    refine Qe ?_
    refine QX (by kernel_rfl) ?_
    refine Qf ?_
    refine Qb rfl rfl rfl rfl (op_addN rfl rfl (Nat.lt_of_lt_of_le hlt0 hlen18)) ?_
    refine Qb rfl rfl rfl rfl (Qi rfl) ?_
    refine Qe ?_
    refine Q5 [2, 3, 17, 18, 19] [12, 253, 493, 733, 893, 70005] rfl rfl rfl rfl (by rw [hF]; rfl) ?_
    obtain rfl := Qr hm
    have hn := QM hc0
    exact hn _ rfl
   refine Qy 6 [true, false, true, true, true, true, true, false, false, false, false, false] ⟨[(2, .ptr 12 0 0), (3, .ptr 893 0 0), (5, .ptr 2895 0 0), (17, .sl 2 (List.map Qc p0.Points)), (18, .int .i64 (p0.Points.length : Int)), (19, .int .i64 (n0 : Int)), (20, .bool (decide ((n0 : Int) < (p0.Points.length : Int)))), (21, .cp [.int .i64 x0.At, .sl 2 (List.map Qa x0.Facts)]), (22, .agg [.int .i64 x0.At, .sl 2 (List.map Qa x0.Facts)]), (23, .ptr 893 0 3), (25, .ptr 2895 0 0), (26, .int .i64 x0.At), (27, .ptr 2895 0 1), (28, .sl 2 (List.map Qa x0.Facts)), (29, .ow 3456)], [(12, .box [.snil, .snil, .snil, .snil]), (253, .arr ⟨false, true⟩ 2 184 (List.map Qa j0.1)), (493, .arr ⟨false, true⟩ 2 184 (List.map Qa j0.2.1)), (733, .arr ⟨false, true⟩ 2 40 (List.map Qd j0.2.2)), (893, .box [.ow 253, .ow 493, .ow 733, .ow 70005]), (2895, .box [.int .i64 x0.At, .sl 2 (List.map Qa x0.Facts)]), (3456, .arr ⟨false, true⟩ 2 184 (List.map Qa r29)), (70005, .arr ⟨false, true⟩ 2 81 (List.map Qc s0))]⟩ ?_ (fun hS2895_7 => ?_)
   ·refine Qn 7 (by kernel_rfl) rfl rfl rfl rfl rfl (Q3 pl81 z81 rfl rfl rfl rfl rfl) ?_
    refine Qz [1, 8] (by kernel_rfl) rfl ?_
    refine ⟨?_, ?_⟩
    ·refine ⟨_, rfl, ?_⟩
     refine Qb rfl rfl rfl rfl (Qg ag67 rfl rfl) ?_
     refine Qe ?_
     refine Ql [2, 3, 5, 17, 18, 19, 20, 21, 22, 23, 24, 25, 26, 27, 28, 29, 30] [12, 253, 493, 733, 893, 2895, 3456, 70005] rfl rfl rfl rfl (by rw [hF]; rfl) ?_
     exact hS2895_5
    ·refine ⟨_, rfl, ?_⟩
     refine Q6 (ids := [3456]) (es := List.map Qc [(Point.mk x0.At r29)]) 3616 el67 z81 rfl rfl rfl rfl rfl rfl (by rw [hF]; intro j hj; simp only [List.mem_cons, List.not_mem_nil, or_false] at hj; rcases hj with rfl <;> rfl) rfl rfl rfl rfl rfl rfl ?_
     refine Qe ?_
     refine Ql [2, 3, 5, 17, 18, 19, 20, 21, 22, 23, 25, 26, 27, 28, 29, 30, 31] [12, 253, 493, 733, 893, 2895, 3616, 70005] rfl rfl rfl rfl (by rw [hF]; rfl) ?_
     exact hS2895_6
   refine Qy 7 [true, false, true, true, true, true, false, false, false, false, false, false] ⟨[(2, .ptr 12 0 0), (3, .ptr 893 0 0), (5, .ptr 2895 0 0), (17, .sl 2 (List.map Qc p0.Points)), (18, .int .i64 (p0.Points.length : Int)), (19, .int .i64 (n0 : Int)), (20, .bool (decide ((n0 : Int) < (p0.Points.length : Int)))), (21, .cp [.int .i64 x0.At, .sl 2 (List.map Qa x0.Facts)]), (22, .agg [.int .i64 x0.At, .sl 2 (List.map Qa x0.Facts)]), (23, .ptr 893 0 3), (25, .ptr 2895 0 0), (26, .int .i64 x0.At), (27, .ptr 2895 0 1), (28, .sl 2 (List.map Qa x0.Facts))], [(12, .box [.snil, .snil, .snil, .snil]), (253, .arr ⟨false, true⟩ 2 184 (List.map Qa j0.1)), (493, .arr ⟨false, true⟩ 2 184 (List.map Qa j0.2.1)), (733, .arr ⟨false, true⟩ 2 40 (List.map Qd j0.2.2)), (893, .box [.ow 253, .ow 493, .ow 733, .ow 70005]), (2895, .box [.int .i64 x0.At, .sl 2 (List.map Qa x0.Facts)]), (70005, .arr ⟨false, true⟩ 2 81 (List.map Qc s0))]⟩ ?_ (fun hS2895_8 => ?_)
   ·refine Qz [1, 6] (by kernel_rfl) rfl ?_
    refine ⟨?_, ?_⟩
    ·refine ⟨_, rfl, ?_⟩
     refine Qb rfl rfl rfl rfl (Qg ag67 rfl rfl) ?_
     refine Qe ?_
     refine Ql [2, 3, 5, 17, 18, 19, 20, 21, 22, 23, 24, 25, 26, 27, 28] [12, 253, 493, 733, 893, 2895, 70005] rfl rfl rfl rfl (by rw [hF]; rfl) ?_
     exact hS2895_1
    ·refine ⟨_, rfl, ?_⟩
     refine Qt [(1000, 3456)] (ACall.F (F := F) (Xf x0.Facts r29 hr29)) Try.call106 rfl rfl rfl rfl rfl rfl rfl rfl rfl rfl rfl rfl rfl ?_
     refine Qe ?_
     refine Ql [2, 3, 5, 17, 18, 19, 20, 21, 22, 23, 25, 26, 27, 28, 29] [12, 253, 493, 733, 893, 2895, 3456, 70005] rfl rfl rfl rfl (by rw [hF]; rfl) ?_
     exact hS2895_7
   refine Qy 8 [true, false, true, true, true, false, false, false, false, false, false, false] ⟨[(2, .ptr 12 0 0), (3, .ptr 893 0 0), (5, .ptr 2895 0 0), (17, .sl 2 (List.map Qc p0.Points)), (18, .int .i64 (p0.Points.length : Int)), (19, .int .i64 (n0 : Int)), (20, .bool (decide ((n0 : Int) < (p0.Points.length : Int)))), (21, .cp [.int .i64 x0.At, .sl 2 (List.map Qa x0.Facts)]), (22, .agg [.int .i64 x0.At, .sl 2 (List.map Qa x0.Facts)]), (23, .ptr 893 0 3), (25, .ptr 2895 0 0), (26, .int .i64 x0.At), (27, .ptr 2895 0 1)], [(12, .box [.snil, .snil, .snil, .snil]), (253, .arr ⟨false, true⟩ 2 184 (List.map Qa j0.1)), (493, .arr ⟨false, true⟩ 2 184 (List.map Qa j0.2.1)), (733, .arr ⟨false, true⟩ 2 40 (List.map Qd j0.2.2)), (893, .box [.ow 253, .ow 493, .ow 733, .ow 70005]), (2895, .box [.int .i64 x0.At, .sl 2 (List.map Qa x0.Facts)]), (70005, .arr ⟨false, true⟩ 2 81 (List.map Qc s0))]⟩ ?_ (fun hS2895_9 => ?_)
   ·refine Qz [1, 5] (by kernel_rfl) rfl ?_
    refine ⟨?_, ?_⟩
    ·refine ⟨_, rfl, ?_⟩
     refine Qb rfl rfl rfl rfl (Qg ag67 rfl rfl) ?_
     refine Qe ?_
     refine Ql [2, 3, 5, 17, 18, 19, 20, 21, 22, 23, 24, 25, 26, 27] [12, 253, 493, 733, 893, 2895, 70005] rfl rfl rfl rfl (by rw [hF]; rfl) ?_
     exact hS2895_0
    ·refine ⟨_, rfl, ?_⟩
     refine Qb rfl rfl rfl rfl (Qg ag66 rfl rfl) ?_
     refine Qe ?_
     refine Ql [2, 3, 5, 17, 18, 19, 20, 21, 22, 23, 25, 26, 27, 28] [12, 253, 493, 733, 893, 2895, 70005] rfl rfl rfl rfl (by rw [hF]; rfl) ?_
     exact hS2895_8
   refine Qy 7 [true, false, true, false, true, true, true, false, false, false, false, false] ⟨[(2, .ptr 12 0 0), (3, .ptr 893 0 0), (5, .ptr 2895 0 0), (17, .sl 2 (List.map Qc p0.Points)), (18, .int .i64 (p0.Points.length : Int)), (19, .int .i64 (n0 : Int)), (20, .bool (decide ((n0 : Int) < (p0.Points.length : Int)))), (21, .cp [.int .i64 x0.At, .sl 2 (List.map Qa x0.Facts)]), (22, .agg [.int .i64 x0.At, .sl 2 (List.map Qa x0.Facts)]), (23, .ptr 893 0 3), (25, .ptr 2895 0 0), (27, .ptr 2895 0 1), (28, .sl 2 (List.map Qa x0.Facts)), (29, .ow 3456)], [(12, .box [.snil, .snil, .snil, .snil]), (253, .arr ⟨false, true⟩ 2 184 (List.map Qa j0.1)), (493, .arr ⟨false, true⟩ 2 184 (List.map Qa j0.2.1)), (733, .arr ⟨false, true⟩ 2 40 (List.map Qd j0.2.2)), (893, .box [.ow 253, .ow 493, .ow 733, .ow 70005]), (2895, .box [.int .i64 x0.At, .sl 2 (List.map Qa x0.Facts)]), (3456, .arr ⟨false, true⟩ 2 184 (List.map Qa r29)), (70005, .arr ⟨false, true⟩ 2 81 (List.map Qc s0))]⟩ ?_ (fun hS2895_10 => ?_)
   ·refine Qz [1, 3] (by kernel_rfl) rfl ?_
    refine ⟨?_, ?_⟩
    ·refine ⟨_, rfl, ?_⟩
     refine Qb rfl rfl rfl rfl (Qg ag67 rfl rfl) ?_
     refine Qe ?_
     refine Ql [2, 3, 5, 17, 18, 19, 20, 21, 22, 23, 24, 25, 27, 28, 29] [12, 253, 493, 733, 893, 2895, 3456, 70005] rfl rfl rfl rfl (by rw [hF]; rfl) ?_
     exact hS2895_2
    ·refine ⟨_, rfl, ?_⟩
     refine Qb rfl rfl rfl rfl (Qg ag2 rfl rfl) ?_
     refine Qe ?_
     refine Ql [2, 3, 5, 17, 18, 19, 20, 21, 22, 23, 25, 26, 27, 28, 29] [12, 253, 493, 733, 893, 2895, 3456, 70005] rfl rfl rfl rfl (by rw [hF]; rfl) ?_
     exact hS2895_7
   refine Qy 8 [true, false, true, false, true, true, false, false, false, false, false, false] ⟨[(2, .ptr 12 0 0), (3, .ptr 893 0 0), (5, .ptr 2895 0 0), (17, .sl 2 (List.map Qc p0.Points)), (18, .int .i64 (p0.Points.length : Int)), (19, .int .i64 (n0 : Int)), (20, .bool (decide ((n0 : Int) < (p0.Points.length : Int)))), (21, .cp [.int .i64 x0.At, .sl 2 (List.map Qa x0.Facts)]), (22, .agg [.int .i64 x0.At, .sl 2 (List.map Qa x0.Facts)]), (23, .ptr 893 0 3), (25, .ptr 2895 0 0), (27, .ptr 2895 0 1), (28, .sl 2 (List.map Qa x0.Facts))], [(12, .box [.snil, .snil, .snil, .snil]), (253, .arr ⟨false, true⟩ 2 184 (List.map Qa j0.1)), (493, .arr ⟨false, true⟩ 2 184 (List.map Qa j0.2.1)), (733, .arr ⟨false, true⟩ 2 40 (List.map Qd j0.2.2)), (893, .box [.ow 253, .ow 493, .ow 733, .ow 70005]), (2895, .box [.int .i64 x0.At, .sl 2 (List.map Qa x0.Facts)]), (70005, .arr ⟨false, true⟩ 2 81 (List.map Qc s0))]⟩ ?_ (fun hS2895_11 => ?_)
   ·refine Qz [1, 3, 6] (by kernel_rfl) rfl ?_
    refine ⟨?_, ?_, ?_⟩
    ·refine ⟨_, rfl, ?_⟩
     refine Qb rfl rfl rfl rfl (Qg ag67 rfl rfl) ?_
     refine Qe ?_
     refine Ql [2, 3, 5, 17, 18, 19, 20, 21, 22, 23, 24, 25, 27, 28] [12, 253, 493, 733, 893, 2895, 70005] rfl rfl rfl rfl (by rw [hF]; rfl) ?_
     exact hS2895_3
    ·refine ⟨_, rfl, ?_⟩
     refine Qb rfl rfl rfl rfl (Qg ag2 rfl rfl) ?_
     refine Qe ?_
     refine Ql [2, 3, 5, 17, 18, 19, 20, 21, 22, 23, 25, 26, 27, 28] [12, 253, 493, 733, 893, 2895, 70005] rfl rfl rfl rfl (by rw [hF]; rfl) ?_
     exact hS2895_8
    ·refine ⟨_, rfl, ?_⟩
     refine Qt [(1000, 3456)] (ACall.F (F := F) (Xf x0.Facts r29 hr29)) Try.call106 rfl rfl rfl rfl rfl rfl rfl rfl rfl rfl rfl rfl rfl ?_
     refine Qe ?_
     refine Ql [2, 3, 5, 17, 18, 19, 20, 21, 22, 23, 25, 27, 28, 29] [12, 253, 493, 733, 893, 2895, 3456, 70005] rfl rfl rfl rfl (by rw [hF]; rfl) ?_
     exact hS2895_10
   refine Qz [1, 3, 5] (by kernel_rfl) rfl ?_
   refine ⟨?_, ?_, ?_⟩
   ·refine ⟨_, rfl, ?_⟩
    refine Qb rfl rfl rfl rfl (Qg ag67 rfl rfl) ?_
    refine Qe ?_
    refine Ql [2, 3, 5, 17, 18, 19, 20, 21, 22, 23, 24, 25, 27] [12, 253, 493, 733, 893, 2895, 70005] rfl rfl rfl rfl (by rw [hF]; rfl) ?_
    exact hS2895_4
   ·refine ⟨_, rfl, ?_⟩
    refine Qb rfl rfl rfl rfl (Qg ag2 rfl rfl) ?_
    refine Qe ?_
    refine Ql [2, 3, 5, 17, 18, 19, 20, 21, 22, 23, 25, 26, 27] [12, 253, 493, 733, 893, 2895, 70005] rfl rfl rfl rfl (by rw [hF]; rfl) ?_
    exact hS2895_9
   ·refine ⟨_, rfl, ?_⟩
    refine Qb rfl rfl rfl rfl (Qg ag66 rfl rfl) ?_
    refine Qe ?_
    refine Ql [2, 3, 5, 17, 18, 19, 20, 21, 22, 23, 25, 27, 28] [12, 253, 493, 733, 893, 2895, 70005] rfl rfl rfl rfl (by rw [hF]; rfl) ?_
    exact hS2895_11
 ·refine T_drawZ [11] mix (by kernel_rfl) rfl ?_
  obtain ⟨r8, hr8, hm⟩ := Qw hm
  obtain ⟨r11, hr11, hm⟩ := Qw hm
  obtain ⟨r14, hr14, hm⟩ := Qw hm
  refine Qn 0 (by kernel_rfl) rfl rfl rfl rfl rfl (Qj fa69_0 rfl rfl) ?_
  refine Qn 1 (by kernel_rfl) rfl rfl rfl rfl rfl (Qg ag66 rfl rfl) ?_
  refine Qn 3 (by kernel_rfl) rfl rfl rfl rfl rfl (Qj fa69_1 rfl rfl) ?_
  refine Qn 4 (by kernel_rfl) rfl rfl rfl rfl rfl (Qg ag66 rfl rfl) ?_
  refine Qn 6 (by kernel_rfl) rfl rfl rfl rfl rfl (Qj fa69_2 rfl rfl) ?_
  refine Qn 7 (by kernel_rfl) rfl rfl rfl rfl rfl (Qg ag24 rfl rfl) ?_
  refine Qy 3 [true, true, true, true, true, true, true, true, true, false, false, false] ⟨[(0, .agg [.sl 2 (List.map Qa p0.Pre), .sl 2 (List.map Qa p0.Post), .sl 2 (List.map Qd p0.Code), .sl 2 (List.map Qc p0.Points)]), (1, .ptr 11 0 0), (2, .ptr 12 0 0), (6, .ptr 11 0 0), (7, .sl 2 (List.map Qa p0.Pre)), (8, .ow 4097), (9, .ptr 11 0 1), (10, .sl 2 (List.map Qa p0.Post)), (11, .ow 4337), (12, .ptr 11 0 2), (13, .sl 2 (List.map Qd p0.Code)), (14, .ow 4577)], [(11, .box [.sl 2 (List.map Qa p0.Pre), .sl 2 (List.map Qa p0.Post), .sl 2 (List.map Qd p0.Code), .sl 2 (List.map Qc p0.Points)]), (12, .box [.snil, .snil, .snil, .snil]), (4097, .arr ⟨false, true⟩ 2 184 (List.map Qa r8)), (4337, .arr ⟨false, true⟩ 2 184 (List.map Qa r11)), (4577, .arr ⟨false, true⟩ 2 40 (List.map Qd r14))]⟩ ?_ (fun hS3856_0 => ?_)
  ·refine Qn 9 (by kernel_rfl) rfl rfl rfl rfl rfl (Q3 pl69 z69 rfl rfl rfl rfl rfl) ?_
   refine Qs 10 (by kernel_rfl) rfl ?_
   refine QJ 4737 z69 rfl rfl rfl rfl rfl rfl rfl ?_
   refine Qe ?_
   refine Qs 11 (by kernel_rfl) rfl ?_
   refine Qo sz69 rfl rfl rfl rfl rfl rfl rfl rfl rfl ?_
   refine Qe ?_
   refine QX (by kernel_rfl) ?_
   refine Qm [1, 2, 3] [11, 12, 4097, 4337, 4577, 4737] rfl rfl rfl rfl (by rw [hF]; rfl) ?_
   refine T_ren [(11, 11), (12, 12), (4097, 253), (4337, 493), (4577, 733), (4737, 893)] rfl rfl rfl (by rw [hF]; rfl) ?_
   exact hj0 (r8, r11, r14) hm
  refine Qy 3 [true, true, true, true, true, true, true, true, false, false, true, false] ⟨[(0, .agg [.sl 2 (List.map Qa p0.Pre), .sl 2 (List.map Qa p0.Post), .sl 2 (List.map Qd p0.Code), .sl 2 (List.map Qc p0.Points)]), (1, .ptr 11 0 0), (2, .ptr 12 0 0), (3, .ptr 4737 0 0), (6, .ptr 11 0 0), (7, .sl 2 (List.map Qa p0.Pre)), (8, .ow 4097), (9, .ptr 11 0 1), (10, .sl 2 (List.map Qa p0.Post)), (11, .ow 4337), (12, .ptr 11 0 2), (13, .sl 2 (List.map Qd p0.Code))], [(11, .box [.sl 2 (List.map Qa p0.Pre), .sl 2 (List.map Qa p0.Post), .sl 2 (List.map Qd p0.Code), .sl 2 (List.map Qc p0.Points)]), (12, .box [.snil, .snil, .snil, .snil]), (4097, .arr ⟨false, true⟩ 2 184 (List.map Qa r8)), (4337, .arr ⟨false, true⟩ 2 184 (List.map Qa r11)), (4737, .box [.snil, .snil, .snil, .snil])]⟩ ?_ (fun hS3856_1 => ?_)
  ·refine Qs 8 (by kernel_rfl) rfl ?_
   refine Qt [(1000, 4577)] (ACall.F (F := F) (Xi p0.Code r14 hr14)) Try.call150 rfl rfl rfl rfl rfl rfl rfl rfl rfl rfl rfl rfl rfl ?_
   refine Qe ?_
   refine Qn 9 (by kernel_rfl) rfl rfl rfl rfl rfl (Q3 pl69 z69 rfl rfl rfl rfl rfl) ?_
   refine Qs 11 (by kernel_rfl) rfl ?_
   refine Qo sz69 rfl rfl rfl rfl rfl rfl rfl rfl rfl ?_
   refine Qe ?_
   refine QX (by kernel_rfl) ?_
   refine Qm [1, 2, 3] [11, 12, 4097, 4337, 4577, 4737] rfl rfl rfl rfl (by rw [hF]; rfl) ?_
   refine T_ren [(11, 11), (12, 12), (4097, 253), (4337, 493), (4577, 733), (4737, 893)] rfl rfl rfl (by rw [hF]; rfl) ?_
   exact hj0 (r8, r11, r14) hm
  refine Qy 4 [true, true, true, true, true, true, true, true, false, false, false, false] ⟨[(0, .agg [.sl 2 (List.map Qa p0.Pre), .sl 2 (List.map Qa p0.Post), .sl 2 (List.map Qd p0.Code), .sl 2 (List.map Qc p0.Points)]), (1, .ptr 11 0 0), (2, .ptr 12 0 0), (6, .ptr 11 0 0), (7, .sl 2 (List.map Qa p0.Pre)), (8, .ow 4097), (9, .ptr 11 0 1), (10, .sl 2 (List.map Qa p0.Post)), (11, .ow 4337), (12, .ptr 11 0 2), (13, .sl 2 (List.map Qd p0.Code))], [(11, .box [.sl 2 (List.map Qa p0.Pre), .sl 2 (List.map Qa p0.Post), .sl 2 (List.map Qd p0.Code), .sl 2 (List.map Qc p0.Points)]), (12, .box [.snil, .snil, .snil, .snil]), (4097, .arr ⟨false, true⟩ 2 184 (List.map Qa r8)), (4337, .arr ⟨false, true⟩ 2 184 (List.map Qa r11))]⟩ ?_ (fun hS3856_2 => ?_)
  ·refine Qz [8, 10] (by kernel_rfl) rfl ?_
   refine ⟨?_, ?_⟩
   ·refine ⟨_, rfl, ?_⟩
    refine Qt [(1000, 4577)] (ACall.F (F := F) (Xi p0.Code r14 hr14)) Try.call150 rfl rfl rfl rfl rfl rfl rfl rfl rfl rfl rfl rfl rfl ?_
    refine Qe ?_
    refine Ql [0, 1, 2, 6, 7, 8, 9, 10, 11, 12, 13, 14] [11, 12, 4097, 4337, 4577] rfl rfl rfl rfl (by rw [hF]; rfl) ?_
    exact hS3856_0
   ·refine ⟨_, rfl, ?_⟩
    refine QJ 4737 z69 rfl rfl rfl rfl rfl rfl rfl ?_
    refine Qe ?_
    refine Ql [0, 1, 2, 3, 6, 7, 8, 9, 10, 11, 12, 13] [11, 12, 4097, 4337, 4737] rfl rfl rfl rfl (by rw [hF]; rfl) ?_
    exact hS3856_1
  refine Qy 4 [true, true, true, true, true, false, true, true, false, false, true, false] ⟨[(0, .agg [.sl 2 (List.map Qa p0.Pre), .sl 2 (List.map Qa p0.Post), .sl 2 (List.map Qd p0.Code), .sl 2 (List.map Qc p0.Points)]), (1, .ptr 11 0 0), (2, .ptr 12 0 0), (3, .ptr 4737 0 0), (6, .ptr 11 0 0), (7, .sl 2 (List.map Qa p0.Pre)), (8, .ow 4097), (9, .ptr 11 0 1), (10, .sl 2 (List.map Qa p0.Post)), (12, .ptr 11 0 2), (13, .sl 2 (List.map Qd p0.Code))], [(11, .box [.sl 2 (List.map Qa p0.Pre), .sl 2 (List.map Qa p0.Post), .sl 2 (List.map Qd p0.Code), .sl 2 (List.map Qc p0.Points)]), (12, .box [.snil, .snil, .snil, .snil]), (4097, .arr ⟨false, true⟩ 2 184 (List.map Qa r8)), (4737, .box [.snil, .snil, .snil, .snil])]⟩ ?_ (fun hS3856_3 => ?_)
  ·refine Qs 5 (by kernel_rfl) rfl ?_
   refine Qt [(1000, 4337)] (ACall.F (F := F) (Xf p0.Post r11 hr11)) Try.call106 rfl rfl rfl rfl rfl rfl rfl rfl rfl rfl rfl rfl rfl ?_
   refine Qe ?_
   refine Qs 8 (by kernel_rfl) rfl ?_
   refine Qt [(1000, 4577)] (ACall.F (F := F) (Xi p0.Code r14 hr14)) Try.call150 rfl rfl rfl rfl rfl rfl rfl rfl rfl rfl rfl rfl rfl ?_
   refine Qe ?_
   refine Qn 9 (by kernel_rfl) rfl rfl rfl rfl rfl (Q3 pl69 z69 rfl rfl rfl rfl rfl) ?_
   refine Qs 11 (by kernel_rfl) rfl ?_
   refine Qo sz69 rfl rfl rfl rfl rfl rfl rfl rfl rfl ?_
   refine Qe ?_
   refine QX (by kernel_rfl) ?_
   refine Qm [1, 2, 3] [11, 12, 4097, 4337, 4577, 4737] rfl rfl rfl rfl (by rw [hF]; rfl) ?_
   refine T_ren [(11, 11), (12, 12), (4097, 253), (4337, 493), (4577, 733), (4737, 893)] rfl rfl rfl (by rw [hF]; rfl) ?_
   exact hj0 (r8, r11, r14) hm
  refine Qy 5 [true, true, true, true, true, false, true, true, false, false, false, false] ⟨[(0, .agg [.sl 2 (List.map Qa p0.Pre), .sl 2 (List.map Qa p0.Post), .sl 2 (List.map Qd p0.Code), .sl 2 (List.map Qc p0.Points)]), (1, .ptr 11 0 0), (2, .ptr 12 0 0), (6, .ptr 11 0 0), (7, .sl 2 (List.map Qa p0.Pre)), (8, .ow 4097), (9, .ptr 11 0 1), (10, .sl 2 (List.map Qa p0.Post)), (12, .ptr 11 0 2), (13, .sl 2 (List.map Qd p0.Code))], [(11, .box [.sl 2 (List.map Qa p0.Pre), .sl 2 (List.map Qa p0.Post), .sl 2 (List.map Qd p0.Code), .sl 2 (List.map Qc p0.Points)]), (12, .box [.snil, .snil, .snil, .snil]), (4097, .arr ⟨false, true⟩ 2 184 (List.map Qa r8))]⟩ ?_ (fun hS3856_4 => ?_)
  ·refine Qz [5, 10] (by kernel_rfl) rfl ?_
   refine ⟨?_, ?_⟩
   ·refine ⟨_, rfl, ?_⟩
    refine Qt [(1000, 4337)] (ACall.F (F := F) (Xf p0.Post r11 hr11)) Try.call106 rfl rfl rfl rfl rfl rfl rfl rfl rfl rfl rfl rfl rfl ?_
    refine Qe ?_
    refine Ql [0, 1, 2, 6, 7, 8, 9, 10, 11, 12, 13] [11, 12, 4097, 4337] rfl rfl rfl rfl (by rw [hF]; rfl) ?_
    exact hS3856_2
   ·refine ⟨_, rfl, ?_⟩
    refine QJ 4737 z69 rfl rfl rfl rfl rfl rfl rfl ?_
    refine Qe ?_
    refine Ql [0, 1, 2, 3, 6, 7, 8, 9, 10, 12, 13] [11, 12, 4097, 4737] rfl rfl rfl rfl (by rw [hF]; rfl) ?_
    exact hS3856_3
  refine Qy 5 [true, true, false, true, true, false, true, true, false, false, true, false] ⟨[(0, .agg [.sl 2 (List.map Qa p0.Pre), .sl 2 (List.map Qa p0.Post), .sl 2 (List.map Qd p0.Code), .sl 2 (List.map Qc p0.Points)]), (1, .ptr 11 0 0), (2, .ptr 12 0 0), (3, .ptr 4737 0 0), (6, .ptr 11 0 0), (7, .sl 2 (List.map Qa p0.Pre)), (9, .ptr 11 0 1), (10, .sl 2 (List.map Qa p0.Post)), (12, .ptr 11 0 2), (13, .sl 2 (List.map Qd p0.Code))], [(11, .box [.sl 2 (List.map Qa p0.Pre), .sl 2 (List.map Qa p0.Post), .sl 2 (List.map Qd p0.Code), .sl 2 (List.map Qc p0.Points)]), (12, .box [.snil, .snil, .snil, .snil]), (4737, .box [.snil, .snil, .snil, .snil])]⟩ ?_ (fun hS3856_5 => ?_)
  ·refine Qs 2 (by kernel_rfl) rfl ?_
   refine Qt [(1000, 4097)] (ACall.F (F := F) (Xf p0.Pre r8 hr8)) Try.call106 rfl rfl rfl rfl rfl rfl rfl rfl rfl rfl rfl rfl rfl ?_
   refine Qe ?_
   refine Qs 5 (by kernel_rfl) rfl ?_
   refine Qt [(1000, 4337)] (ACall.F (F := F) (Xf p0.Post r11 hr11)) Try.call106 rfl rfl rfl rfl rfl rfl rfl rfl rfl rfl rfl rfl rfl ?_
   refine Qe ?_
   refine Qs 8 (by kernel_rfl) rfl ?_
   refine Qt [(1000, 4577)] (ACall.F (F := F) (Xi p0.Code r14 hr14)) Try.call150 rfl rfl rfl rfl rfl rfl rfl rfl rfl rfl rfl rfl rfl ?_
   refine Qe ?_
   refine Qn 9 (by kernel_rfl) rfl rfl rfl rfl rfl (Q3 pl69 z69 rfl rfl rfl rfl rfl) ?_
   refine Qs 11 (by kernel_rfl) rfl ?_
   refine Qo sz69 rfl rfl rfl rfl rfl rfl rfl rfl rfl ?_
   refine Qe ?_
   refine QX (by kernel_rfl) ?_
   refine Qm [1, 2, 3] [11, 12, 4097, 4337, 4577, 4737] rfl rfl rfl rfl (by rw [hF]; rfl) ?_
   refine T_ren [(11, 11), (12, 12), (4097, 253), (4337, 493), (4577, 733), (4737, 893)] rfl rfl rfl (by rw [hF]; rfl) ?_
   exact hj0 (r8, r11, r14) hm
  refine Qz [2, 10] (by kernel_rfl) rfl ?_
  refine ⟨?_, ?_⟩
  ·refine ⟨_, rfl, ?_⟩
   refine Qt [(1000, 4097)] (ACall.F (F := F) (Xf p0.Pre r8 hr8)) Try.call106 rfl rfl rfl rfl rfl rfl rfl rfl rfl rfl rfl rfl rfl ?_
   refine Qe ?_
   refine Ql [0, 1, 2, 6, 7, 8, 9, 10, 12, 13] [11, 12, 4097] rfl rfl rfl rfl (by rw [hF]; rfl) ?_
   exact hS3856_4
  ·refine ⟨_, rfl, ?_⟩
   refine QJ 4737 z69 rfl rfl rfl rfl rfl rfl rfl ?_
   refine Qe ?_
   refine Ql [0, 1, 2, 3, 6, 7, 9, 10, 12, 13] [11, 12, 4737] rfl rfl rfl rfl (by rw [hF]; rfl) ?_
   exact hS3856_5
theorem c_impl_Annotated_checked_own (p0 : Annotated) (out : Annotated × Bool) (hm : m_impl_Annotated_checked p0 = some out) : ACall Try.prog 107 [.agg [.ow 0, .ow 1, .ow 2, .ow 3]] [(0, .arr ⟨false, true⟩ 2 184 (List.map Qa p0.Pre)), (1, .arr ⟨false, true⟩ 2 184 (List.map Qa p0.Post)), (2, .arr ⟨false, true⟩ 2 40 (List.map Qd p0.Code)), (3, .arr ⟨false, true⟩ 2 81 (List.map Qc p0.Points))] (.tup [.agg [.ow 0, .ow 1, .ow 2, .ow 3], .bool out.2]) [(0, .arr ⟨false, true⟩ 2 184 (List.map Qa out.1.Pre)), (1, .arr ⟨false, true⟩ 2 184 (List.map Qa out.1.Post)), (2, .arr ⟨false, true⟩ 2 40 (List.map Qd out.1.Code)), (3, .arr ⟨false, true⟩ 2 81 (List.map Qc out.1.Points))] := by
 refine ACall.intro Try.func107 rfl Try.ntmps107 rfl (fun F hF => ?_)
 unfold m_impl_Annotated_checked at hm
 refine Qk ?_
 refine Qf ?_
 refine TL_box 11 rfl rfl rfl rfl rfl rfl rfl ?_
 refine QJ 12 z69 rfl rfl rfl rfl rfl rfl rfl ?_
 refine Qb rfl rfl rfl rfl (Qh rfl) ?_
 refine Qe ?_
 refine Qk ?_
 refine Qk ?_
 refine Qf ?_
 refine Qb rfl rfl rfl rfl (Qv ag69 sz69 rfl rfl rfl) ?_
 obtain ⟨r5, hr5, hm⟩ := Qw hm
 refine QA (ACall.F (F := F) (c_impl_ValidAnnotated p0 r5 hr5)) Try.call89 rfl rfl rfl rfl rfl ?_
 refine Qb rfl rfl rfl rfl (op_not rfl) ?_
 refine Qe ?_
 refine QF rfl (fun hq => ?_) (fun hq => ?_)
 ·replace hm := QT hq hm
  refine Qk ?_
  refine Qf ?_
  refine Qb rfl rfl rfl rfl (Q3 pl69 z69 rfl rfl rfl rfl rfl) ?_
  refine Qo sz69 rfl rfl rfl rfl rfl rfl rfl rfl rfl ?_
  refine Qb rfl rfl rfl rfl (Qh rfl) ?_
  refine Qe ?_
  refine T_swapNilBox 12 0 0 ⟨false, true⟩ rfl rfl rfl rfl rfl rfl rfl rfl rfl rfl ?_
  refine T_swapNilBox 12 1 1 ⟨false, true⟩ rfl rfl rfl rfl rfl rfl rfl rfl rfl rfl ?_
  refine T_swapNilBox 12 2 2 ⟨false, true⟩ rfl rfl rfl rfl rfl rfl rfl rfl rfl rfl ?_
  refine T_swapNilBox 12 3 3 ⟨false, true⟩ rfl rfl rfl rfl rfl rfl rfl rfl rfl rfl ?_
  refine Qm [2, 3] [0, 1, 2, 3, 12] rfl rfl rfl rfl (by rw [hF]; rfl) ?_
  refine QH ?_
  obtain rfl := Qr hm
  refine ⟨[_, _], [0, 1, 2, 3], ⟨⟨_, _, rfl, rfl, .inr ⟨ag69, _, _, sz69, rfl, rfl⟩⟩, rfl, trivial⟩, ?_, rfl, rfl, rfl, rfl⟩
  rfl
 ·replace hm := QS hq hm
  refine QG ?_
  refine Qk ?_
  refine Qf ?_
  refine Qb rfl rfl rfl rfl (Qv ag69 sz69 rfl rfl rfl) ?_
  refine Qo sz69 rfl rfl rfl rfl rfl rfl rfl rfl rfl ?_
  refine Qb rfl rfl rfl rfl (Qh rfl) ?_
  refine Qe ?_
  refine Qm [2, 3] [0, 1, 2, 3, 12] rfl rfl rfl rfl (by rw [hF]; rfl) ?_
  refine QH ?_
  obtain rfl := Qr hm
  refine ⟨[_, _], [0, 1, 2, 3], ⟨⟨_, _, rfl, rfl, .inr ⟨ag69, _, _, sz69, rfl, rfl⟩⟩, rfl, trivial⟩, ?_, rfl, rfl, rfl, rfl⟩
  rfl
theorem c_impl_AddPoint (p0 : Annotated) (p1 : Point) (out : Annotated × Bool) (hm : m_impl_AddPoint p0 p1 = some out) : ACall Try.prog 53 [.agg [.sl 2 (List.map Qa p0.Pre), .sl 2 (List.map Qa p0.Post), .sl 2 (List.map Qd p0.Code), .sl 2 (List.map Qc p0.Points)], .agg [.int .i64 p1.At, .sl 2 (List.map Qa p1.Facts)]] [] (.tup [.agg [.ow 1000, .ow 1001, .ow 1002, .ow 1003], .bool out.2]) [(1000, .arr ⟨false, true⟩ 2 184 (List.map Qa out.1.Pre)), (1001, .arr ⟨false, true⟩ 2 184 (List.map Qa out.1.Post)), (1002, .arr ⟨false, true⟩ 2 40 (List.map Qd out.1.Code)), (1003, .arr ⟨false, true⟩ 2 81 (List.map Qc out.1.Points))] := by
 refine ACall.intro Try.func53 rfl Try.ntmps53 rfl (fun F hF => ?_)
 unfold m_impl_AddPoint at hm
 refine Qk ?_
 refine Qf ?_
 refine TL_box 11 rfl rfl rfl rfl rfl rfl rfl ?_
 refine TL_box 12 rfl rfl rfl rfl rfl rfl rfl ?_
 refine QJ 13 z69 rfl rfl rfl rfl rfl rfl rfl ?_
 refine Qb rfl rfl rfl rfl (Qh rfl) ?_
 refine Qe ?_
 refine Qk ?_
 refine Qk ?_
 refine Qf ?_
 refine Qb rfl rfl rfl rfl (Qv ag69 sz69 rfl rfl rfl) ?_
 obtain ⟨r9, hr9, hm⟩ := Qw hm
 refine QA (ACall.F (F := F) (c_impl_ValidAnnotated p0 r9 hr9)) Try.call89 rfl rfl rfl rfl rfl ?_
 refine Qb rfl rfl rfl rfl (op_not rfl) ?_
 refine Qe ?_
 refine QF rfl (fun hq => ?_) (fun hq => ?_)
 ·replace hm := QT hq hm
  refine Qk ?_
  refine Qf ?_
  refine Qb rfl rfl rfl rfl (Q3 pl69 z69 rfl rfl rfl rfl rfl) ?_
  refine Qo sz69 rfl rfl rfl rfl rfl rfl rfl rfl rfl ?_
  refine Qb rfl rfl rfl rfl (Qh rfl) ?_
  refine Qe ?_
  refine T_ownNilBox 13 0 14 ⟨false, true⟩ 184 rfl rfl rfl (sz := 2) rfl rfl rfl rfl ?_
  refine T_ownNilBox 13 1 15 ⟨false, true⟩ 184 rfl rfl rfl (sz := 2) rfl rfl rfl rfl ?_
  refine T_ownNilBox 13 2 16 ⟨false, true⟩ 40 rfl rfl rfl (sz := 2) rfl rfl rfl rfl ?_
  refine T_ownNilBox 13 3 17 ⟨false, true⟩ 81 rfl rfl rfl (sz := 2) rfl rfl rfl rfl ?_
  refine Qm [4, 5] [13, 14, 15, 16, 17] rfl rfl rfl rfl (by rw [hF]; rfl) ?_
  refine T_ren [(13, 13), (14, 1000), (15, 1001), (16, 1002), (17, 1003)] rfl rfl rfl (by rw [hF]; rfl) ?_
  refine QH ?_
  obtain rfl := Qr hm
  refine ⟨[_, _], [1000, 1001, 1002, 1003], ⟨⟨_, _, rfl, rfl, .inr ⟨ag69, _, _, sz69, rfl, rfl⟩⟩, rfl, trivial⟩, ?_, rfl, rfl, rfl, rfl⟩
  rfl
 ·replace hm := QS hq hm
  refine QG ?_
  refine Qk ?_
  refine Qf ?_
  refine Qb rfl rfl rfl rfl (Qv ag69 sz69 rfl rfl rfl) ?_
  obtain ⟨r13, hr13, hm⟩ := Qw hm
  refine Qt [(1000, 18), (1001, 19), (1002, 20), (1003, 21)] (ACall.F (F := F) (c_impl_Annotated_own p0 r13 hr13)) Try.call90 rfl rfl rfl rfl rfl rfl rfl rfl rfl rfl rfl rfl rfl ?_
  refine QJ 22 z69 rfl rfl rfl rfl rfl rfl rfl ?_
  refine Qo sz69 rfl rfl rfl rfl rfl rfl rfl rfl rfl ?_
  refine Qe ?_
  refine Qk ?_
  refine Qf ?_
  refine Qb rfl rfl rfl rfl (Qh rfl) ?_
  refine Qe ?_
  refine Qk ?_
  refine QV ?_
  refine Qm [3, 4, 6, 7] [12, 13, 18, 19, 20, 21, 22] rfl rfl rfl rfl (by rw [hF]; rfl) ?_
  refine T_loop ?_
  obtain ⟨u0, hl0, hm⟩ := Qw hm
  refine TR_iter2 (m_impl_AddPoint_L0 p1 r13) (fun (s0 : Int) => ⟨[(3, .ptr 12 0 0), (4, .ptr 13 0 0), (6, .ptr 22 0 0), (7, .int .i64 s0)], [(12, .box [.int .i64 p1.At, .sl 2 (List.map Qa p1.Facts)]), (13, .box [.snil, .snil, .snil, .snil]), (18, .arr ⟨false, true⟩ 2 184 (List.map Qa r13.Pre)), (19, .arr ⟨false, true⟩ 2 184 (List.map Qa r13.Post)), (20, .arr ⟨false, true⟩ 2 40 (List.map Qd r13.Code)), (21, .arr ⟨false, true⟩ 2 81 (List.map Qc r13.Points)), (22, .box [.ow 18, .ow 19, .ow 20, .ow 21])]⟩) (fun u0 => .exit 0) (fun u0 => ⟨[(3, .ptr 12 0 0), (4, .ptr 13 0 0), (6, .ptr 22 0 0), (7, .int .i64 u0)], [(12, .box [.int .i64 p1.At, .sl 2 (List.map Qa p1.Facts)]), (13, .box [.snil, .snil, .snil, .snil]), (18, .arr ⟨false, true⟩ 2 184 (List.map Qa r13.Pre)), (19, .arr ⟨false, true⟩ 2 184 (List.map Qa r13.Post)), (20, .arr ⟨false, true⟩ 2 40 (List.map Qd r13.Code)), (21, .arr ⟨false, true⟩ 2 81 (List.map Qc r13.Points)), (22, .box [.ow 18, .ow 19, .ow 20, .ow 21])]⟩) (fun u0 => m_impl_AddPoint_A0 p1 r13 u0 = some out) hl0 hm (fun u0 hm => ?_) (fun hx0 s0 c0 hm hc0 => ?_)
  ·unfold m_impl_AddPoint_A0 at hm
   refine T_join (fun (j0 : List Point) => ⟨[(4, .ptr 13 0 0), (6, .ptr 22 0 0)], [(13, .box [.snil, .snil, .snil, .snil]), (18, .arr ⟨false, true⟩ 2 184 (List.map Qa r13.Pre)), (19, .arr ⟨false, true⟩ 2 184 (List.map Qa r13.Post)), (20, .arr ⟨false, true⟩ 2 40 (List.map Qd r13.Code)), (21, .arr ⟨false, true⟩ 2 81 (List.map Qc j0)), (22, .box [.ow 18, .ow 19, .ow 20, .ow 21])]⟩) (fun j0 => m_impl_AddPoint_J0 r13 j0 = some out) (fun j0 hm => ?_) (fun hj0 => ?_)
   ·unfold m_impl_AddPoint_J0 at hm
    refine Qk ?_
    refine Qf ?_
    refine Qb rfl rfl rfl rfl (Qv ag69 sz69 rfl rfl rfl) ?_
    obtain ⟨r45, hr45, hm⟩ := Qw hm
    refine TL_call [(0, 18), (1, 19), (2, 20), (3, 21)] [] [18, 19, 20, 21] (ACall.F (F := F) (c_impl_Annotated_checked_own (Annotated.mk r13.Pre r13.Post r13.Code j0) r45 hr45)) Try.call107 rfl rfl rfl rfl rfl ⟨rfl, rfl, rfl, rfl, trivial⟩ rfl rfl rfl rfl rfl rfl rfl rfl rfl rfl rfl ?_
    refine Qb rfl rfl rfl rfl (op_extract rfl rfl) ?_
    refine Qb rfl rfl rfl rfl (op_extract rfl rfl) ?_
    refine Qo sz69 rfl rfl rfl rfl rfl rfl rfl rfl rfl ?_
    refine Qb rfl rfl rfl rfl (Qh rfl) ?_
    refine Qe ?_
    refine Qm [4, 5] [13, 18, 19, 20, 21] rfl rfl rfl rfl (by rw [hF]; rfl) ?_
    refine T_ren [(13, 13), (18, 1000), (19, 1001), (20, 1002), (21, 1003)] rfl rfl rfl (by rw [hF]; rfl) ?_
    refine QH ?_
    obtain rfl := Qr hm
    refine ⟨[_, _], [1000, 1001, 1002, 1003], ⟨⟨_, _, rfl, rfl, .inr ⟨ag69, _, _, sz69, rfl, rfl⟩⟩, rfl, trivial⟩, ?_, rfl, rfl, rfl, rfl⟩
    rfl
   ·refine T_drawZ [9, 10, 12] mix (by kernel_rfl) rfl ?_
    obtain ⟨r39, hr39, hm⟩ := Qw hm
    obtain ⟨r42, hr42, hm⟩ := Qw hm
    refine Qn 0 (by kernel_rfl) rfl rfl rfl rfl rfl (Qj fa69_3 rfl rfl) ?_
    refine Qn 2 (by kernel_rfl) rfl rfl rfl rfl rfl (Qi rfl) ?_
    refine Qn 3 (by kernel_rfl) rfl rfl rfl rfl rfl (Qj fa81_0 rfl rfl) ?_
    refine Qn 5 (by kernel_rfl) rfl rfl rfl rfl rfl (Qj fa81_1 rfl rfl) ?_
    refine Qy 7 [true, true, true, true, true, true, false, false, false, false, false, false, false] ⟨[(3, .ptr 12 0 0), (4, .ptr 13 0 0), (6, .ptr 22 0 0), (7, .int .i64 u0), (32, .ptr 22 0 3), (33, .ow 21), (34, .int .i64 u0), (35, .ptr 12 0 0), (36, .int .i64 p1.At), (37, .ptr 12 0 1)], [(12, .box [.int .i64 p1.At, .sl 2 (List.map Qa p1.Facts)]), (13, .box [.snil, .snil, .snil, .snil]), (18, .arr ⟨false, true⟩ 2 184 (List.map Qa r13.Pre)), (19, .arr ⟨false, true⟩ 2 184 (List.map Qa r13.Post)), (20, .arr ⟨false, true⟩ 2 40 (List.map Qd r13.Code)), (21, .arr ⟨false, true⟩ 2 81 (List.map Qc r13.Points)), (22, .box [.ow 18, .ow 19, .ow 20, .ow 21])]⟩ ?_ (fun hS1062_0 => ?_)
    ·refine Qs 6 (by kernel_rfl) rfl ?_
     refine Qb rfl rfl rfl rfl (Qg ag66 rfl rfl) ?_
     refine Qe ?_
     refine Qs 7 (by kernel_rfl) rfl ?_
     refine Qt [(1000, 1703)] (ACall.F (F := F) (Xf p1.Facts r39 hr39)) Try.call106 rfl rfl rfl rfl rfl rfl rfl rfl rfl rfl rfl rfl rfl ?_
     refine Qe ?_
     refine Qn 8 (by kernel_rfl) rfl rfl rfl rfl rfl (Q3 pl81 z81 rfl rfl rfl rfl rfl) ?_
     refine Qs 9 (by kernel_rfl) rfl ?_
     refine Q6 (ids := [1703]) (es := List.map Qc [(Point.mk p1.At r39)]) 1863 el67 z81 rfl rfl rfl rfl rfl rfl (by rw [hF]; intro j hj; simp only [List.mem_cons, List.not_mem_nil, or_false] at hj; rcases hj with rfl <;> rfl) rfl rfl rfl rfl rfl rfl ?_
     refine Qe ?_
     refine Qs 10 (by kernel_rfl) rfl ?_
     refine TL_insertD (f := Qc) (l := r13.Points) hr42 Try.call105 rfl rfl rfl rfl rfl rfl (by rw [hF]; rfl) rfl rfl rfl rfl rfl ?_
     refine Qe ?_
     refine Qn 11 (by kernel_rfl) rfl rfl rfl rfl rfl (Qj fa69_3 rfl rfl) ?_
     refine Qs 12 (by kernel_rfl) rfl ?_
     refine Qo sz67 rfl rfl rfl rfl rfl rfl rfl rfl rfl ?_
     refine Qe ?_
     refine QX (by kernel_rfl) ?_
     refine Qm [4, 6] [13, 18, 19, 20, 21, 22] rfl rfl rfl rfl (by rw [hF]; rfl) ?_
     exact hj0 r42 hm
    refine Qy 6 [true, true, true, true, true, true, true, false, false, false, false, false, false] ⟨[(3, .ptr 12 0 0), (4, .ptr 13 0 0), (6, .ptr 22 0 0), (7, .int .i64 u0), (32, .ptr 22 0 3), (33, .ow 21), (34, .int .i64 u0), (35, .ptr 12 0 0), (36, .int .i64 p1.At), (37, .ptr 12 0 1), (38, .sl 2 (List.map Qa p1.Facts))], [(12, .box [.int .i64 p1.At, .sl 2 (List.map Qa p1.Facts)]), (13, .box [.snil, .snil, .snil, .snil]), (18, .arr ⟨false, true⟩ 2 184 (List.map Qa r13.Pre)), (19, .arr ⟨false, true⟩ 2 184 (List.map Qa r13.Post)), (20, .arr ⟨false, true⟩ 2 40 (List.map Qd r13.Code)), (21, .arr ⟨false, true⟩ 2 81 (List.map Qc r13.Points)), (22, .box [.ow 18, .ow 19, .ow 20, .ow 21])]⟩ ?_ (fun hS1062_1 => ?_)
    ·refine Qs 7 (by kernel_rfl) rfl ?_
     refine Qt [(1000, 1703)] (ACall.F (F := F) (Xf p1.Facts r39 hr39)) Try.call106 rfl rfl rfl rfl rfl rfl rfl rfl rfl rfl rfl rfl rfl ?_
     refine Qe ?_
     refine Qn 8 (by kernel_rfl) rfl rfl rfl rfl rfl (Q3 pl81 z81 rfl rfl rfl rfl rfl) ?_
     refine Qs 9 (by kernel_rfl) rfl ?_
     refine Q6 (ids := [1703]) (es := List.map Qc [(Point.mk p1.At r39)]) 1863 el67 z81 rfl rfl rfl rfl rfl rfl (by rw [hF]; intro j hj; simp only [List.mem_cons, List.not_mem_nil, or_false] at hj; rcases hj with rfl <;> rfl) rfl rfl rfl rfl rfl rfl ?_
     refine Qe ?_
     refine Qs 10 (by kernel_rfl) rfl ?_
     refine TL_insertD (f := Qc) (l := r13.Points) hr42 Try.call105 rfl rfl rfl rfl rfl rfl (by rw [hF]; rfl) rfl rfl rfl rfl rfl ?_
     refine Qe ?_
     refine Qn 11 (by kernel_rfl) rfl rfl rfl rfl rfl (Qj fa69_3 rfl rfl) ?_
     refine Qs 12 (by kernel_rfl) rfl ?_
     refine Qo sz67 rfl rfl rfl rfl rfl rfl rfl rfl rfl ?_
     refine Qe ?_
     refine QX (by kernel_rfl) ?_
     refine Qm [4, 6] [13, 18, 19, 20, 21, 22] rfl rfl rfl rfl (by rw [hF]; rfl) ?_
     exact hj0 r42 hm
    refine Qy 6 [true, true, true, true, false, true, true, true, false, false, false, false, false] ⟨[(3, .ptr 12 0 0), (4, .ptr 13 0 0), (6, .ptr 22 0 0), (7, .int .i64 u0), (32, .ptr 22 0 3), (33, .ow 21), (34, .int .i64 u0), (35, .ptr 12 0 0), (37, .ptr 12 0 1), (38, .sl 2 (List.map Qa p1.Facts)), (39, .ow 1703)], [(12, .box [.int .i64 p1.At, .sl 2 (List.map Qa p1.Facts)]), (13, .box [.snil, .snil, .snil, .snil]), (18, .arr ⟨false, true⟩ 2 184 (List.map Qa r13.Pre)), (19, .arr ⟨false, true⟩ 2 184 (List.map Qa r13.Post)), (20, .arr ⟨false, true⟩ 2 40 (List.map Qd r13.Code)), (21, .arr ⟨false, true⟩ 2 81 (List.map Qc r13.Points)), (22, .box [.ow 18, .ow 19, .ow 20, .ow 21]), (1703, .arr ⟨false, true⟩ 2 184 (List.map Qa r39))]⟩ ?_ (fun hS1062_2 => ?_)
    ·refine Qs 4 (by kernel_rfl) rfl ?_
     refine Qb rfl rfl rfl rfl (Qg ag2 rfl rfl) ?_
     refine Qe ?_
     refine Qn 8 (by kernel_rfl) rfl rfl rfl rfl rfl (Q3 pl81 z81 rfl rfl rfl rfl rfl) ?_
     refine Qs 9 (by kernel_rfl) rfl ?_
     refine Q6 (ids := [1703]) (es := List.map Qc [(Point.mk p1.At r39)]) 1863 el67 z81 rfl rfl rfl rfl rfl rfl (by rw [hF]; intro j hj; simp only [List.mem_cons, List.not_mem_nil, or_false] at hj; rcases hj with rfl <;> rfl) rfl rfl rfl rfl rfl rfl ?_
     refine Qe ?_
     refine Qs 10 (by kernel_rfl) rfl ?_
     refine TL_insertD (f := Qc) (l := r13.Points) hr42 Try.call105 rfl rfl rfl rfl rfl rfl (by rw [hF]; rfl) rfl rfl rfl rfl rfl ?_
     refine Qe ?_
     refine Qn 11 (by kernel_rfl) rfl rfl rfl rfl rfl (Qj fa69_3 rfl rfl) ?_
     refine Qs 12 (by kernel_rfl) rfl ?_
     refine Qo sz67 rfl rfl rfl rfl rfl rfl rfl rfl rfl ?_
     refine Qe ?_
     refine QX (by kernel_rfl) ?_
     refine Qm [4, 6] [13, 18, 19, 20, 21, 22] rfl rfl rfl rfl (by rw [hF]; rfl) ?_
     exact hj0 r42 hm
    refine Qy 7 [true, true, true, true, false, true, true, false, false, false, false, false, false] ⟨[(3, .ptr 12 0 0), (4, .ptr 13 0 0), (6, .ptr 22 0 0), (7, .int .i64 u0), (32, .ptr 22 0 3), (33, .ow 21), (34, .int .i64 u0), (35, .ptr 12 0 0), (37, .ptr 12 0 1), (38, .sl 2 (List.map Qa p1.Facts))], [(12, .box [.int .i64 p1.At, .sl 2 (List.map Qa p1.Facts)]), (13, .box [.snil, .snil, .snil, .snil]), (18, .arr ⟨false, true⟩ 2 184 (List.map Qa r13.Pre)), (19, .arr ⟨false, true⟩ 2 184 (List.map Qa r13.Post)), (20, .arr ⟨false, true⟩ 2 40 (List.map Qd r13.Code)), (21, .arr ⟨false, true⟩ 2 81 (List.map Qc r13.Points)), (22, .box [.ow 18, .ow 19, .ow 20, .ow 21])]⟩ ?_ (fun hS1062_3 => ?_)
    ·refine Qz [4, 7] (by kernel_rfl) rfl ?_
     refine ⟨?_, ?_⟩
     ·refine ⟨_, rfl, ?_⟩
      refine Qb rfl rfl rfl rfl (Qg ag2 rfl rfl) ?_
      refine Qe ?_
      refine Ql [3, 4, 6, 7, 32, 33, 34, 35, 36, 37, 38] [12, 13, 18, 19, 20, 21, 22] rfl rfl rfl rfl (by rw [hF]; rfl) ?_
      exact hS1062_1
     ·refine ⟨_, rfl, ?_⟩
      refine Qt [(1000, 1703)] (ACall.F (F := F) (Xf p1.Facts r39 hr39)) Try.call106 rfl rfl rfl rfl rfl rfl rfl rfl rfl rfl rfl rfl rfl ?_
      refine Qe ?_
      refine Ql [3, 4, 6, 7, 32, 33, 34, 35, 37, 38, 39] [12, 13, 18, 19, 20, 21, 22, 1703] rfl rfl rfl rfl (by rw [hF]; rfl) ?_
      exact hS1062_2
    refine Qy 8 [true, true, true, true, false, true, false, false, false, false, false, false, false] ⟨[(3, .ptr 12 0 0), (4, .ptr 13 0 0), (6, .ptr 22 0 0), (7, .int .i64 u0), (32, .ptr 22 0 3), (33, .ow 21), (34, .int .i64 u0), (35, .ptr 12 0 0), (37, .ptr 12 0 1)], [(12, .box [.int .i64 p1.At, .sl 2 (List.map Qa p1.Facts)]), (13, .box [.snil, .snil, .snil, .snil]), (18, .arr ⟨false, true⟩ 2 184 (List.map Qa r13.Pre)), (19, .arr ⟨false, true⟩ 2 184 (List.map Qa r13.Post)), (20, .arr ⟨false, true⟩ 2 40 (List.map Qd r13.Code)), (21, .arr ⟨false, true⟩ 2 81 (List.map Qc r13.Points)), (22, .box [.ow 18, .ow 19, .ow 20, .ow 21])]⟩ ?_ (fun hS1062_4 => ?_)
    ·refine Qz [4, 6] (by kernel_rfl) rfl ?_
     refine ⟨?_, ?_⟩
     ·refine ⟨_, rfl, ?_⟩
      refine Qb rfl rfl rfl rfl (Qg ag2 rfl rfl) ?_
      refine Qe ?_
      refine Ql [3, 4, 6, 7, 32, 33, 34, 35, 36, 37] [12, 13, 18, 19, 20, 21, 22] rfl rfl rfl rfl (by rw [hF]; rfl) ?_
      exact hS1062_0
     ·refine ⟨_, rfl, ?_⟩
      refine Qb rfl rfl rfl rfl (Qg ag66 rfl rfl) ?_
      refine Qe ?_
      refine Ql [3, 4, 6, 7, 32, 33, 34, 35, 37, 38] [12, 13, 18, 19, 20, 21, 22] rfl rfl rfl rfl (by rw [hF]; rfl) ?_
      exact hS1062_3
    refine Qy 4 [true, true, true, true, true, true, true, true, true, false, false, false, false] ⟨[(3, .ptr 12 0 0), (4, .ptr 13 0 0), (6, .ptr 22 0 0), (7, .int .i64 u0), (32, .ptr 22 0 3), (33, .ow 21), (34, .int .i64 u0), (35, .ptr 12 0 0), (36, .int .i64 p1.At), (37, .ptr 12 0 1), (38, .sl 2 (List.map Qa p1.Facts)), (39, .ow 1703), (40, .agg [.int .i64 p1.At, .ow 1703])], [(12, .box [.int .i64 p1.At, .sl 2 (List.map Qa p1.Facts)]), (13, .box [.snil, .snil, .snil, .snil]), (18, .arr ⟨false, true⟩ 2 184 (List.map Qa r13.Pre)), (19, .arr ⟨false, true⟩ 2 184 (List.map Qa r13.Post)), (20, .arr ⟨false, true⟩ 2 40 (List.map Qd r13.Code)), (21, .arr ⟨false, true⟩ 2 81 (List.map Qc r13.Points)), (22, .box [.ow 18, .ow 19, .ow 20, .ow 21]), (1703, .arr ⟨false, true⟩ 2 184 (List.map Qa r39))]⟩ ?_ (fun hS1062_5 => ?_)
    ·refine Qs 9 (by kernel_rfl) rfl ?_
     refine Q6 (ids := [1703]) (es := List.map Qc [(Point.mk p1.At r39)]) 1863 el67 z81 rfl rfl rfl rfl rfl rfl (by rw [hF]; intro j hj; simp only [List.mem_cons, List.not_mem_nil, or_false] at hj; rcases hj with rfl <;> rfl) rfl rfl rfl rfl rfl rfl ?_
     refine Qe ?_
     refine Qs 10 (by kernel_rfl) rfl ?_
     refine TL_insertD (f := Qc) (l := r13.Points) hr42 Try.call105 rfl rfl rfl rfl rfl rfl (by rw [hF]; rfl) rfl rfl rfl rfl rfl ?_
     refine Qe ?_
     refine Qn 11 (by kernel_rfl) rfl rfl rfl rfl rfl (Qj fa69_3 rfl rfl) ?_
     refine Qs 12 (by kernel_rfl) rfl ?_
     refine Qo sz67 rfl rfl rfl rfl rfl rfl rfl rfl rfl ?_
     refine Qe ?_
     refine QX (by kernel_rfl) ?_
     refine Qm [4, 6] [13, 18, 19, 20, 21, 22] rfl rfl rfl rfl (by rw [hF]; rfl) ?_
     exact hj0 r42 hm
    refine Qy 4 [true, false, true, true, true, true, true, true, true, true, false, false, false] ⟨[(3, .ptr 12 0 0), (4, .ptr 13 0 0), (6, .ptr 22 0 0), (7, .int .i64 u0), (32, .ptr 22 0 3), (34, .int .i64 u0), (35, .ptr 12 0 0), (36, .int .i64 p1.At), (37, .ptr 12 0 1), (38, .sl 2 (List.map Qa p1.Facts)), (39, .junk), (40, .junk), (41, .ow 1863)], [(12, .box [.int .i64 p1.At, .sl 2 (List.map Qa p1.Facts)]), (13, .box [.snil, .snil, .snil, .snil]), (18, .arr ⟨false, true⟩ 2 184 (List.map Qa r13.Pre)), (19, .arr ⟨false, true⟩ 2 184 (List.map Qa r13.Post)), (20, .arr ⟨false, true⟩ 2 40 (List.map Qd r13.Code)), (21, .arr ⟨false, true⟩ 2 81 (List.map Qc r13.Points)), (22, .box [.ow 18, .ow 19, .ow 20, .ow 21]), (1863, .arr ⟨false, true⟩ 2 81 (List.map Qc [(Point.mk p1.At r39)]))]⟩ ?_ (fun hS1062_6 => ?_)
    ·refine Qn 1 (by kernel_rfl) rfl rfl rfl rfl rfl (Qg ag67 rfl rfl) ?_
     refine Qs 10 (by kernel_rfl) rfl ?_
     refine TL_insertD (f := Qc) (l := r13.Points) hr42 Try.call105 rfl rfl rfl rfl rfl rfl (by rw [hF]; rfl) rfl rfl rfl rfl rfl ?_
     refine Qe ?_
     refine Qn 11 (by kernel_rfl) rfl rfl rfl rfl rfl (Qj fa69_3 rfl rfl) ?_
     refine Qs 12 (by kernel_rfl) rfl ?_
     refine Qo sz67 rfl rfl rfl rfl rfl rfl rfl rfl rfl ?_
     refine Qe ?_
     refine QX (by kernel_rfl) ?_
     refine Qm [4, 6] [13, 18, 19, 20, 21, 22] rfl rfl rfl rfl (by rw [hF]; rfl) ?_
     exact hj0 r42 hm
    refine Qy 6 [true, false, true, true, true, true, true, true, false, false, false, false, false] ⟨[(3, .ptr 12 0 0), (4, .ptr 13 0 0), (6, .ptr 22 0 0), (7, .int .i64 u0), (32, .ptr 22 0 3), (34, .int .i64 u0), (35, .ptr 12 0 0), (36, .int .i64 p1.At), (37, .ptr 12 0 1), (38, .sl 2 (List.map Qa p1.Facts)), (39, .ow 1703)], [(12, .box [.int .i64 p1.At, .sl 2 (List.map Qa p1.Facts)]), (13, .box [.snil, .snil, .snil, .snil]), (18, .arr ⟨false, true⟩ 2 184 (List.map Qa r13.Pre)), (19, .arr ⟨false, true⟩ 2 184 (List.map Qa r13.Post)), (20, .arr ⟨false, true⟩ 2 40 (List.map Qd r13.Code)), (21, .arr ⟨false, true⟩ 2 81 (List.map Qc r13.Points)), (22, .box [.ow 18, .ow 19, .ow 20, .ow 21]), (1703, .arr ⟨false, true⟩ 2 184 (List.map Qa r39))]⟩ ?_ (fun hS1062_7 => ?_)
    ·refine Qn 8 (by kernel_rfl) rfl rfl rfl rfl rfl (Q3 pl81 z81 rfl rfl rfl rfl rfl) ?_
     refine Qz [1, 9] (by kernel_rfl) rfl ?_
     refine ⟨?_, ?_⟩
     ·refine ⟨_, rfl, ?_⟩
      refine Qb rfl rfl rfl rfl (Qg ag67 rfl rfl) ?_
      refine Qe ?_
      refine Ql [3, 4, 6, 7, 32, 33, 34, 35, 36, 37, 38, 39, 40] [12, 13, 18, 19, 20, 21, 22, 1703] rfl rfl rfl rfl (by rw [hF]; rfl) ?_
      exact hS1062_5
     ·refine ⟨_, rfl, ?_⟩
      refine Q6 (ids := [1703]) (es := List.map Qc [(Point.mk p1.At r39)]) 1863 el67 z81 rfl rfl rfl rfl rfl rfl (by rw [hF]; intro j hj; simp only [List.mem_cons, List.not_mem_nil, or_false] at hj; rcases hj with rfl <;> rfl) rfl rfl rfl rfl rfl rfl ?_
      refine Qe ?_
      refine Ql [3, 4, 6, 7, 32, 34, 35, 36, 37, 38, 39, 40, 41] [12, 13, 18, 19, 20, 21, 22, 1863] rfl rfl rfl rfl (by rw [hF]; rfl) ?_
      exact hS1062_6
    refine Qy 7 [true, false, true, true, true, true, true, false, false, false, false, false, false] ⟨[(3, .ptr 12 0 0), (4, .ptr 13 0 0), (6, .ptr 22 0 0), (7, .int .i64 u0), (32, .ptr 22 0 3), (34, .int .i64 u0), (35, .ptr 12 0 0), (36, .int .i64 p1.At), (37, .ptr 12 0 1), (38, .sl 2 (List.map Qa p1.Facts))], [(12, .box [.int .i64 p1.At, .sl 2 (List.map Qa p1.Facts)]), (13, .box [.snil, .snil, .snil, .snil]), (18, .arr ⟨false, true⟩ 2 184 (List.map Qa r13.Pre)), (19, .arr ⟨false, true⟩ 2 184 (List.map Qa r13.Post)), (20, .arr ⟨false, true⟩ 2 40 (List.map Qd r13.Code)), (21, .arr ⟨false, true⟩ 2 81 (List.map Qc r13.Points)), (22, .box [.ow 18, .ow 19, .ow 20, .ow 21])]⟩ ?_ (fun hS1062_8 => ?_)
    ·refine Qz [1, 7] (by kernel_rfl) rfl ?_
     refine ⟨?_, ?_⟩
     ·refine ⟨_, rfl, ?_⟩
      refine Qb rfl rfl rfl rfl (Qg ag67 rfl rfl) ?_
      refine Qe ?_
      refine Ql [3, 4, 6, 7, 32, 33, 34, 35, 36, 37, 38] [12, 13, 18, 19, 20, 21, 22] rfl rfl rfl rfl (by rw [hF]; rfl) ?_
      exact hS1062_1
     ·refine ⟨_, rfl, ?_⟩
      refine Qt [(1000, 1703)] (ACall.F (F := F) (Xf p1.Facts r39 hr39)) Try.call106 rfl rfl rfl rfl rfl rfl rfl rfl rfl rfl rfl rfl rfl ?_
      refine Qe ?_
      refine Ql [3, 4, 6, 7, 32, 34, 35, 36, 37, 38, 39] [12, 13, 18, 19, 20, 21, 22, 1703] rfl rfl rfl rfl (by rw [hF]; rfl) ?_
      exact hS1062_7
    refine Qy 8 [true, false, true, true, true, true, false, false, false, false, false, false, false] ⟨[(3, .ptr 12 0 0), (4, .ptr 13 0 0), (6, .ptr 22 0 0), (7, .int .i64 u0), (32, .ptr 22 0 3), (34, .int .i64 u0), (35, .ptr 12 0 0), (36, .int .i64 p1.At), (37, .ptr 12 0 1)], [(12, .box [.int .i64 p1.At, .sl 2 (List.map Qa p1.Facts)]), (13, .box [.snil, .snil, .snil, .snil]), (18, .arr ⟨false, true⟩ 2 184 (List.map Qa r13.Pre)), (19, .arr ⟨false, true⟩ 2 184 (List.map Qa r13.Post)), (20, .arr ⟨false, true⟩ 2 40 (List.map Qd r13.Code)), (21, .arr ⟨false, true⟩ 2 81 (List.map Qc r13.Points)), (22, .box [.ow 18, .ow 19, .ow 20, .ow 21])]⟩ ?_ (fun hS1062_9 => ?_)
    ·refine Qz [1, 6] (by kernel_rfl) rfl ?_
     refine ⟨?_, ?_⟩
     ·refine ⟨_, rfl, ?_⟩
      refine Qb rfl rfl rfl rfl (Qg ag67 rfl rfl) ?_
      refine Qe ?_
      refine Ql [3, 4, 6, 7, 32, 33, 34, 35, 36, 37] [12, 13, 18, 19, 20, 21, 22] rfl rfl rfl rfl (by rw [hF]; rfl) ?_
      exact hS1062_0
     ·refine ⟨_, rfl, ?_⟩
      refine Qb rfl rfl rfl rfl (Qg ag66 rfl rfl) ?_
      refine Qe ?_
      refine Ql [3, 4, 6, 7, 32, 34, 35, 36, 37, 38] [12, 13, 18, 19, 20, 21, 22] rfl rfl rfl rfl (by rw [hF]; rfl) ?_
      exact hS1062_8
    refine Qy 7 [true, false, true, true, false, true, true, true, false, false, false, false, false] ⟨[(3, .ptr 12 0 0), (4, .ptr 13 0 0), (6, .ptr 22 0 0), (7, .int .i64 u0), (32, .ptr 22 0 3), (34, .int .i64 u0), (35, .ptr 12 0 0), (37, .ptr 12 0 1), (38, .sl 2 (List.map Qa p1.Facts)), (39, .ow 1703)], [(12, .box [.int .i64 p1.At, .sl 2 (List.map Qa p1.Facts)]), (13, .box [.snil, .snil, .snil, .snil]), (18, .arr ⟨false, true⟩ 2 184 (List.map Qa r13.Pre)), (19, .arr ⟨false, true⟩ 2 184 (List.map Qa r13.Post)), (20, .arr ⟨false, true⟩ 2 40 (List.map Qd r13.Code)), (21, .arr ⟨false, true⟩ 2 81 (List.map Qc r13.Points)), (22, .box [.ow 18, .ow 19, .ow 20, .ow 21]), (1703, .arr ⟨false, true⟩ 2 184 (List.map Qa r39))]⟩ ?_ (fun hS1062_10 => ?_)
    ·refine Qz [1, 4] (by kernel_rfl) rfl ?_
     refine ⟨?_, ?_⟩
     ·refine ⟨_, rfl, ?_⟩
      refine Qb rfl rfl rfl rfl (Qg ag67 rfl rfl) ?_
      refine Qe ?_
      refine Ql [3, 4, 6, 7, 32, 33, 34, 35, 37, 38, 39] [12, 13, 18, 19, 20, 21, 22, 1703] rfl rfl rfl rfl (by rw [hF]; rfl) ?_
      exact hS1062_2
     ·refine ⟨_, rfl, ?_⟩
      refine Qb rfl rfl rfl rfl (Qg ag2 rfl rfl) ?_
      refine Qe ?_
      refine Ql [3, 4, 6, 7, 32, 34, 35, 36, 37, 38, 39] [12, 13, 18, 19, 20, 21, 22, 1703] rfl rfl rfl rfl (by rw [hF]; rfl) ?_
      exact hS1062_7
    refine Qy 8 [true, false, true, true, false, true, true, false, false, false, false, false, false] ⟨[(3, .ptr 12 0 0), (4, .ptr 13 0 0), (6, .ptr 22 0 0), (7, .int .i64 u0), (32, .ptr 22 0 3), (34, .int .i64 u0), (35, .ptr 12 0 0), (37, .ptr 12 0 1), (38, .sl 2 (List.map Qa p1.Facts))], [(12, .box [.int .i64 p1.At, .sl 2 (List.map Qa p1.Facts)]), (13, .box [.snil, .snil, .snil, .snil]), (18, .arr ⟨false, true⟩ 2 184 (List.map Qa r13.Pre)), (19, .arr ⟨false, true⟩ 2 184 (List.map Qa r13.Post)), (20, .arr ⟨false, true⟩ 2 40 (List.map Qd r13.Code)), (21, .arr ⟨false, true⟩ 2 81 (List.map Qc r13.Points)), (22, .box [.ow 18, .ow 19, .ow 20, .ow 21])]⟩ ?_ (fun hS1062_11 => ?_)
    ·refine Qz [1, 4, 7] (by kernel_rfl) rfl ?_
     refine ⟨?_, ?_, ?_⟩
     ·refine ⟨_, rfl, ?_⟩
      refine Qb rfl rfl rfl rfl (Qg ag67 rfl rfl) ?_
      refine Qe ?_
      refine Ql [3, 4, 6, 7, 32, 33, 34, 35, 37, 38] [12, 13, 18, 19, 20, 21, 22] rfl rfl rfl rfl (by rw [hF]; rfl) ?_
      exact hS1062_3
     ·refine ⟨_, rfl, ?_⟩
      refine Qb rfl rfl rfl rfl (Qg ag2 rfl rfl) ?_
      refine Qe ?_
      refine Ql [3, 4, 6, 7, 32, 34, 35, 36, 37, 38] [12, 13, 18, 19, 20, 21, 22] rfl rfl rfl rfl (by rw [hF]; rfl) ?_
      exact hS1062_8
     ·refine ⟨_, rfl, ?_⟩
      refine Qt [(1000, 1703)] (ACall.F (F := F) (Xf p1.Facts r39 hr39)) Try.call106 rfl rfl rfl rfl rfl rfl rfl rfl rfl rfl rfl rfl rfl ?_
      refine Qe ?_
      refine Ql [3, 4, 6, 7, 32, 34, 35, 37, 38, 39] [12, 13, 18, 19, 20, 21, 22, 1703] rfl rfl rfl rfl (by rw [hF]; rfl) ?_
      exact hS1062_10
    refine Qz [1, 4, 6] (by kernel_rfl) rfl ?_
    refine ⟨?_, ?_, ?_⟩
    ·refine ⟨_, rfl, ?_⟩
     refine Qb rfl rfl rfl rfl (Qg ag67 rfl rfl) ?_
     refine Qe ?_
     refine Ql [3, 4, 6, 7, 32, 33, 34, 35, 37] [12, 13, 18, 19, 20, 21, 22] rfl rfl rfl rfl (by rw [hF]; rfl) ?_
     exact hS1062_4
    ·refine ⟨_, rfl, ?_⟩
     refine Qb rfl rfl rfl rfl (Qg ag2 rfl rfl) ?_
     refine Qe ?_
     refine Ql [3, 4, 6, 7, 32, 34, 35, 36, 37] [12, 13, 18, 19, 20, 21, 22] rfl rfl rfl rfl (by rw [hF]; rfl) ?_
     exact hS1062_9
    ·refine ⟨_, rfl, ?_⟩
     refine Qb rfl rfl rfl rfl (Qg ag66 rfl rfl) ?_
     refine Qe ?_
     refine Ql [3, 4, 6, 7, 32, 34, 35, 37, 38] [12, 13, 18, 19, 20, 21, 22] rfl rfl rfl rfl (by rw [hF]; rfl) ?_
     exact hS1062_11
  ·unfold m_impl_AddPoint_L0 at hm
   refine Qk ?_
   refine Qk ?_
   refine T_drawZ [] mix (by kernel_rfl) rfl ?_
   refine Qn 0 (by kernel_rfl) rfl rfl rfl rfl rfl (Qi rfl) ?_
   refine Qn 1 (by kernel_rfl) rfl rfl rfl rfl rfl (Qj fa69_3 rfl rfl) ?_
   refine Qn 2 (by kernel_rfl) rfl rfl rfl rfl rfl (Qg ag67 rfl rfl) ?_
   refine Qn 3 (by kernel_rfl) rfl rfl rfl rfl rfl (op_lenO Try.underlying67 rfl rfl (List.length_map _)) ?_
   refine TZ_fact (fun _ _ _ hr => RelP.owLen (id := 21) rfl hr) (fun hlen17 => ?_)
   rw [List.length_map] at hlen17
   refine Qn 4 (by kernel_rfl) rfl rfl rfl rfl rfl (Xd rfl rfl) ?_
   refine Qn 5 (by kernel_rfl) rfl rfl rfl rfl rfl (Qi rfl) ?_
   refine TZ_split 19 rfl rfl rfl (fun hq => ?_) (fun hq => ?_)
   ·replace hm := QT hq hm
    obtain ⟨x23, hx23, hm⟩ := Qw hm
    refine QK 6 (by kernel_rfl) rfl rfl rfl rfl rfl rfl rfl (Qj fa69_3 rfl rfl) ?_
    refine QK 7 (by kernel_rfl) rfl rfl rfl rfl rfl rfl rfl (Qg ag67 rfl rfl) ?_
    refine QK 8 (by kernel_rfl) rfl rfl rfl rfl rfl rfl rfl (Qi rfl) ?_
    refine QK 9 (by kernel_rfl) rfl rfl rfl rfl rfl rfl rfl (op_indexO el67 rfl rfl rfl hx23) ?_
    refine QK 10 (by kernel_rfl) rfl rfl rfl rfl rfl rfl rfl (Qj fa81_0 rfl rfl) ?_
    refine QK 11 (by kernel_rfl) rfl rfl rfl rfl rfl rfl rfl (op_loadD1 ag2 rfl rfl ((getI_spec hx23).2) rfl rfl rfl rfl) ?_
    refine QK 12 (by kernel_rfl) rfl rfl rfl rfl rfl rfl rfl (Qj fa81_0 rfl rfl) ?_
    refine QK 13 (by kernel_rfl) rfl rfl rfl rfl rfl rfl rfl (Qg ag2 rfl rfl) ?_
    refine QK 14 (by kernel_rfl) rfl rfl rfl rfl rfl rfl rfl (Xd rfl rfl) ?_
    refine Qn 15 (by kernel_rfl) rfl rfl rfl rfl rfl (QC rfl rfl) ?_
    refine QX (by kernel_rfl) ?_
    refine QF rfl (fun hq => ?_) (fun hq => ?_)
    ·replace hm := QT hq hm
     refine QG ?_
     refine QV ?_
     refine Qf ?_
     refine Qb rfl rfl rfl rfl (Qi rfl) ?_
     refine Qb rfl rfl rfl rfl (Xh rfl rfl) ?_
     refine Qb rfl rfl rfl rfl (Qh rfl) ?_
     refine Qe ?_
     refine Q5 [3, 4, 6, 7] [12, 13, 18, 19, 20, 21, 22] rfl rfl rfl rfl (by rw [hF]; rfl) ?_
     obtain rfl := Qr hm
     have hn := QM hc0
     exact hn _ rfl
    ·replace hm := QS hq hm
     refine Qm [3, 4, 6, 7] [12, 13, 18, 19, 20, 21, 22] rfl rfl rfl rfl (by rw [hF]; rfl) ?_
     refine T_exit ?_
     obtain rfl := Qr hm
     have hn := QI hc0
     exact hx0 s0 hn
   ·replace hm := QS hq hm
    refine QR 6 (by kernel_rfl) rfl rfl rfl rfl rfl rfl rfl rfl ?_
    refine QR 7 (by kernel_rfl) rfl rfl rfl rfl rfl rfl rfl rfl ?_
    refine QR 8 (by kernel_rfl) rfl rfl rfl rfl rfl rfl rfl rfl ?_
    refine QR 9 (by kernel_rfl) rfl rfl rfl rfl rfl rfl rfl rfl ?_
    refine QR 10 (by kernel_rfl) rfl rfl rfl rfl rfl rfl rfl rfl ?_
    refine QR 11 (by kernel_rfl) rfl rfl rfl rfl rfl rfl rfl rfl ?_
    refine QR 12 (by kernel_rfl) rfl rfl rfl rfl rfl rfl rfl rfl ?_
    refine QR 13 (by kernel_rfl) rfl rfl rfl rfl rfl rfl rfl rfl ?_
    refine QR 14 (by kernel_rfl) rfl rfl rfl rfl rfl rfl rfl rfl ?_
    refine Qn 15 (by kernel_rfl) rfl rfl rfl rfl rfl (QB rfl rfl) ?_
    refine QX (by kernel_rfl) ?_
    refine T_cond_false rfl ?_
    refine Qm [3, 4, 6, 7] [12, 13, 18, 19, 20, 21, 22] rfl rfl rfl rfl (by rw [hF]; rfl) ?_
    refine T_exit ?_
    obtain rfl := Qr hm
    have hn := QI hc0
    exact hx0 s0 hn
theorem c_laws_eqInt64S (p0 : List Int) (p1 : List Int) (out : Bool) (hm : m_laws_eqInt64S p0 p1 = some out) : ACall Try.prog 26 [.sl 1 (List.map a_i64 p0), .sl 1 (List.map a_i64 p1)] [] (.bool out) [] := by
 refine ACall.intro Try.func26 rfl Try.ntmps26 rfl (fun F hF => ?_)
 unfold m_laws_eqInt64S at hm
 refine Qk ?_
 refine Qf ?_
 refine Qb rfl rfl rfl rfl (Qh rfl) ?_
 refine Qe ?_
 refine Qk ?_
 refine Qk ?_
 refine Qf ?_
 refine Qb rfl rfl rfl rfl (Qi rfl) ?_
 refine Qb rfl rfl rfl rfl (Q8 Try.underlying26 rfl (List.length_map _)) ?_
 refine Xg (fun _ _ _ hr => RelP.slLen (i := 6) rfl hr) (fun hlen7 => ?_)
 rw [List.length_map] at hlen7
 refine Qb rfl rfl rfl rfl (Qi rfl) ?_
 refine Qb rfl rfl rfl rfl (Q8 Try.underlying26 rfl (List.length_map _)) ?_
 refine Xg (fun _ _ _ hr => RelP.slLen (i := 8) rfl hr) (fun hlen9 => ?_)
 rw [List.length_map] at hlen9
 refine Qb rfl rfl rfl rfl (op_neq rfl rfl) ?_
 refine Qe ?_
 refine QF rfl (fun hq => ?_) (fun hq => ?_)
 ·replace hm := QT hq hm
  refine Qk ?_
  refine Qf ?_
  refine Qb rfl rfl rfl rfl (Qh rfl) ?_
  refine Qe ?_
  refine Qm [4] [] rfl rfl rfl rfl (by rw [hF]; rfl) ?_
  refine QH ?_
  obtain rfl := Qr hm
  refine ⟨[_], [], ⟨rfl, trivial⟩, ?_, rfl, rfl, rfl, rfl⟩
  rfl
 ·replace hm := QS hq hm
  refine QG ?_
  refine Qk ?_
  refine Qk ?_
  refine Qf ?_
  refine Qb rfl rfl rfl rfl (Qh rfl) ?_
  refine Qe ?_
  refine QV ?_
  refine Qm [0, 1, 5] [] rfl rfl rfl rfl (by rw [hF]; rfl) ?_
  refine T_loop ?_
  obtain ⟨u0, hl0, hm⟩ := Qw hm
  refine TR_iter2 (m_laws_eqInt64S_L0 p0 p1) (fun (s0 : Int) => ⟨[(0, .sl 1 (List.map a_i64 p0)), (1, .sl 1 (List.map a_i64 p1)), (5, .int .i64 s0)], []⟩) (fun u0 => match u0 with | .inl u0 => .exit 0 | .inr u0 => .ret) (fun u0 => match u0 with | .inl u0 => ⟨[], []⟩ | .inr u0 => ⟨[(4, .bool u0)], []⟩) (fun u0 => m_laws_eqInt64S_A0 u0 = some out) hl0 hm (fun u0 hm => ?_) (fun hx0 s0 c0 hm hc0 => ?_)
  ·rcases u0 with u0 | u0
   ·unfold m_laws_eqInt64S_A0 at hm
    refine Qk ?_
    refine Qf ?_
    refine Qb rfl rfl rfl rfl (Qh rfl) ?_
    refine Qe ?_
    refine Qm [4] [] rfl rfl rfl rfl (by rw [hF]; rfl) ?_
    refine QH ?_
    obtain rfl := Qr hm
    refine ⟨[_], [], ⟨rfl, trivial⟩, ?_, rfl, rfl, rfl, rfl⟩
    rfl
   ·unfold m_laws_eqInt64S_A0 at hm
    obtain rfl := Qr hm
    refine ⟨[_], [], ⟨rfl, trivial⟩, ?_, rfl, rfl, rfl, rfl⟩
    rfl
  ·unfold m_laws_eqInt64S_L0 at hm
   refine Qk ?_
   refine Qk ?_
   refine Qf ?_
   refine Qb rfl rfl rfl rfl (Qi rfl) ?_
   refine Qb rfl rfl rfl rfl (Qi rfl) ?_
   refine Qb rfl rfl rfl rfl (Q8 Try.underlying26 rfl (List.length_map _)) ?_
   refine Qb rfl rfl rfl rfl (Xd rfl rfl) ?_
   refine Qe ?_
   refine QF rfl (fun hq => ?_) (fun hq => ?_)
   ·replace hm := QT hq hm
    refine QG ?_
    refine Qk ?_
    refine QV ?_
    refine Qk ?_
    refine T_drawZ [] mix (by kernel_rfl) rfl ?_
    obtain ⟨x19, hx19, hm⟩ := Qw hm
    obtain ⟨x23, hx23, hm⟩ := Qw hm
    refine Qn 0 (by kernel_rfl) rfl rfl rfl rfl rfl (Qi rfl) ?_
    refine Qn 1 (by kernel_rfl) rfl rfl rfl rfl rfl (Qi rfl) ?_
    refine Qn 2 (by kernel_rfl) rfl rfl rfl rfl rfl (QU el26 rfl rfl hx19 rfl) ?_
    refine Qn 3 (by kernel_rfl) rfl rfl rfl rfl rfl (Qg ag2 rfl rfl) ?_
    refine Qn 4 (by kernel_rfl) rfl rfl rfl rfl rfl (Qi rfl) ?_
    refine Qn 5 (by kernel_rfl) rfl rfl rfl rfl rfl (Qi rfl) ?_
    refine Qn 6 (by kernel_rfl) rfl rfl rfl rfl rfl (QU el26 rfl rfl hx23 rfl) ?_
    refine Qn 7 (by kernel_rfl) rfl rfl rfl rfl rfl (Qg ag2 rfl rfl) ?_
    refine Qn 8 (by kernel_rfl) rfl rfl rfl rfl rfl (op_neq rfl rfl) ?_
    refine QX (by kernel_rfl) ?_
    refine QF rfl (fun hq => ?_) (fun hq => ?_)
    ·replace hm := QT hq hm
     refine Qk ?_
     refine Qf ?_
     refine Qb rfl rfl rfl rfl (Qh rfl) ?_
     refine Qe ?_
     refine Qm [4] [] rfl rfl rfl rfl (by rw [hF]; rfl) ?_
     refine QH ?_
     obtain rfl := Qr hm
     have hn := QI hc0
     exact hx0 (.inr false) hn
    ·replace hm := QS hq hm
     refine QG ?_
     refine Qf ?_
     refine Qb rfl rfl rfl rfl (Qi rfl) ?_
     refine Qb rfl rfl rfl rfl (Xh rfl rfl) ?_
     refine Qb rfl rfl rfl rfl (Qh rfl) ?_
     refine Qe ?_
     refine Q5 [0, 1, 5] [] rfl rfl rfl rfl (by rw [hF]; rfl) ?_
     obtain rfl := Qr hm
     have hn := QM hc0
     exact hn _ rfl
   ·replace hm := QS hq hm
    refine Qm [] [] rfl rfl rfl rfl (by rw [hF]; rfl) ?_
    refine T_exit ?_
    obtain rfl := Qr hm
    have hn := QI hc0
    exact hx0 (.inl ()) hn
theorem c_laws_eqTerm (p0 : Term) (p1 : Term) (out : Bool) (hm : m_laws_eqTerm p0 p1 = some out) : ACall Try.prog 153 [.agg [.int .i64 p0.Const, .sl 1 (List.map a_i64 p0.Coeffs)], .agg [.int .i64 p1.Const, .sl 1 (List.map a_i64 p1.Coeffs)]] [] (.bool out) [] := by
 refine ACall.intro Try.func153 rfl Try.ntmps153 rfl (fun F hF => ?_)
 unfold m_laws_eqTerm at hm
 refine Qk ?_
 refine Qf ?_
 refine TL_box 11 rfl rfl rfl rfl rfl rfl rfl ?_
 refine TL_box 12 rfl rfl rfl rfl rfl rfl rfl ?_
 refine Qb rfl rfl rfl rfl (Qh rfl) ?_
 refine Qe ?_
 refine Qk ?_
 refine Qk ?_
 refine Qf ?_
 refine Qb rfl rfl rfl rfl (Qj fa184_0 rfl rfl) ?_
 refine Qb rfl rfl rfl rfl (Qg ag2 rfl rfl) ?_
 refine Qb rfl rfl rfl rfl (Qj fa184_0 rfl rfl) ?_
 refine Qb rfl rfl rfl rfl (Qg ag2 rfl rfl) ?_
 refine Qb rfl rfl rfl rfl (op_neq rfl rfl) ?_
 refine Qe ?_
 refine QF rfl (fun hq => ?_) (fun hq => ?_)
 ·replace hm := QT hq hm
  refine Qk ?_
  refine Qf ?_
  refine Qb rfl rfl rfl rfl (Qh rfl) ?_
  refine Qe ?_
  refine Qm [4] [] rfl rfl rfl rfl (by rw [hF]; rfl) ?_
  refine QH ?_
  obtain rfl := Qr hm
  refine ⟨[_], [], ⟨rfl, trivial⟩, ?_, rfl, rfl, rfl, rfl⟩
  rfl
 ·replace hm := QS hq hm
  refine QG ?_
  refine Qk ?_
  refine Qk ?_
  refine Qf ?_
  refine Qb rfl rfl rfl rfl (Qj fa184_1 rfl rfl) ?_
  refine Qb rfl rfl rfl rfl (Qg ag26 rfl rfl) ?_
  refine Qb rfl rfl rfl rfl (Qj fa184_1 rfl rfl) ?_
  refine Qb rfl rfl rfl rfl (Qg ag26 rfl rfl) ?_
  obtain ⟨r14, hr14, hm⟩ := Qw hm
  refine QA (ACall.F (F := F) (c_laws_eqInt64S p0.Coeffs p1.Coeffs r14 hr14)) Try.call26 rfl rfl rfl rfl rfl ?_
  refine Qb rfl rfl rfl rfl (op_not rfl) ?_
  refine Qe ?_
  refine QF rfl (fun hq => ?_) (fun hq => ?_)
  ·replace hm := QT hq hm
   refine Qk ?_
   refine Qf ?_
   refine Qb rfl rfl rfl rfl (Qh rfl) ?_
   refine Qe ?_
   refine Qm [4] [] rfl rfl rfl rfl (by rw [hF]; rfl) ?_
   refine QH ?_
   obtain rfl := Qr hm
   refine ⟨[_], [], ⟨rfl, trivial⟩, ?_, rfl, rfl, rfl, rfl⟩
   rfl
  ·replace hm := QS hq hm
   refine QG ?_
   refine Qk ?_
   refine Qf ?_
   refine Qb rfl rfl rfl rfl (Qh rfl) ?_
   refine Qe ?_
   refine Qm [4] [] rfl rfl rfl rfl (by rw [hF]; rfl) ?_
   refine QH ?_
   obtain rfl := Qr hm
   refine ⟨[_], [], ⟨rfl, trivial⟩, ?_, rfl, rfl, rfl, rfl⟩
   rfl
theorem c_laws_eqTermS (p0 : List Term) (p1 : List Term) (out : Bool) (hm : m_laws_eqTermS p0 p1 = some out) : ACall Try.prog 94 [.sl 2 (List.map Qa p0), .sl 2 (List.map Qa p1)] [] (.bool out) [] := by
 refine ACall.intro Try.func94 rfl Try.ntmps94 rfl (fun F hF => ?_)
 unfold m_laws_eqTermS at hm
 refine Qk ?_
 refine Qf ?_
 refine Qb rfl rfl rfl rfl (Qh rfl) ?_
 refine Qe ?_
 refine Qk ?_
 refine Qk ?_
 refine Qf ?_
 refine Qb rfl rfl rfl rfl (Qi rfl) ?_
 refine Qb rfl rfl rfl rfl (Q8 Try.underlying66 rfl (List.length_map _)) ?_
 refine Xg (fun _ _ _ hr => RelP.slLen (i := 6) rfl hr) (fun hlen7 => ?_)
 rw [List.length_map] at hlen7
 refine Qb rfl rfl rfl rfl (Qi rfl) ?_
 refine Qb rfl rfl rfl rfl (Q8 Try.underlying66 rfl (List.length_map _)) ?_
 refine Xg (fun _ _ _ hr => RelP.slLen (i := 8) rfl hr) (fun hlen9 => ?_)
 rw [List.length_map] at hlen9
 refine Qb rfl rfl rfl rfl (op_neq rfl rfl) ?_
 refine Qe ?_
 refine QF rfl (fun hq => ?_) (fun hq => ?_)
 ·replace hm := QT hq hm
  refine Qk ?_
  refine Qf ?_
  refine Qb rfl rfl rfl rfl (Qh rfl) ?_
  refine Qe ?_
  refine Qm [4] [] rfl rfl rfl rfl (by rw [hF]; rfl) ?_
  refine QH ?_
  obtain rfl := Qr hm
  refine ⟨[_], [], ⟨rfl, trivial⟩, ?_, rfl, rfl, rfl, rfl⟩
  rfl
 ·replace hm := QS hq hm
  refine QG ?_
  refine Qk ?_
  refine Qk ?_
  refine Qf ?_
  refine Qb rfl rfl rfl rfl (Qh rfl) ?_
  refine Qe ?_
  refine QV ?_
  refine Qm [0, 1, 5] [] rfl rfl rfl rfl (by rw [hF]; rfl) ?_
  refine T_loop ?_
  obtain ⟨u0, hl0, hm⟩ := Qw hm
  refine TR_iter2 (m_laws_eqTermS_L0 p0 p1) (fun (s0 : Int) => ⟨[(0, .sl 2 (List.map Qa p0)), (1, .sl 2 (List.map Qa p1)), (5, .int .i64 s0)], []⟩) (fun u0 => match u0 with | .inl u0 => .exit 0 | .inr u0 => .ret) (fun u0 => match u0 with | .inl u0 => ⟨[], []⟩ | .inr u0 => ⟨[(4, .bool u0)], []⟩) (fun u0 => m_laws_eqTermS_A0 u0 = some out) hl0 hm (fun u0 hm => ?_) (fun hx0 s0 c0 hm hc0 => ?_)
  ·rcases u0 with u0 | u0
   ·unfold m_laws_eqTermS_A0 at hm
    refine Qk ?_
    refine Qf ?_
    refine Qb rfl rfl rfl rfl (Qh rfl) ?_
    refine Qe ?_
    refine Qm [4] [] rfl rfl rfl rfl (by rw [hF]; rfl) ?_
    refine QH ?_
    obtain rfl := Qr hm
    refine ⟨[_], [], ⟨rfl, trivial⟩, ?_, rfl, rfl, rfl, rfl⟩
    rfl
   ·unfold m_laws_eqTermS_A0 at hm
    obtain rfl := Qr hm
    refine ⟨[_], [], ⟨rfl, trivial⟩, ?_, rfl, rfl, rfl, rfl⟩
    rfl
  ·unfold m_laws_eqTermS_L0 at hm
   refine Qk ?_
   refine Qk ?_
   refine Qf ?_
   refine Qb rfl rfl rfl rfl (Qi rfl) ?_
   refine Qb rfl rfl rfl rfl (Qi rfl) ?_
   refine Qb rfl rfl rfl rfl (Q8 Try.underlying66 rfl (List.length_map _)) ?_
   refine Qb rfl rfl rfl rfl (Xd rfl rfl) ?_
   refine Qe ?_
   refine QF rfl (fun hq => ?_) (fun hq => ?_)
   ·replace hm := QT hq hm
    refine QG ?_
    refine Qk ?_
    refine QV ?_
    refine Qk ?_
    refine T_drawZ [] mix (by kernel_rfl) rfl ?_
    obtain ⟨x19, hx19, hm⟩ := Qw hm
    obtain ⟨x23, hx23, hm⟩ := Qw hm
    obtain ⟨r25, hr25, hm⟩ := Qw hm
    refine Qn 0 (by kernel_rfl) rfl rfl rfl rfl rfl (Qi rfl) ?_
    refine Qn 1 (by kernel_rfl) rfl rfl rfl rfl rfl (Qi rfl) ?_
    refine Qn 2 (by kernel_rfl) rfl rfl rfl rfl rfl (QU el66 rfl rfl hx19 rfl) ?_
    refine Qn 3 (by kernel_rfl) rfl rfl rfl rfl rfl (Qv ag184 sz184 rfl rfl rfl) ?_
    refine Qn 4 (by kernel_rfl) rfl rfl rfl rfl rfl (Qi rfl) ?_
    refine Qn 5 (by kernel_rfl) rfl rfl rfl rfl rfl (Qi rfl) ?_
    refine Qn 6 (by kernel_rfl) rfl rfl rfl rfl rfl (QU el66 rfl rfl hx23 rfl) ?_
    refine Qn 7 (by kernel_rfl) rfl rfl rfl rfl rfl (Qv ag184 sz184 rfl rfl rfl) ?_
    refine Qs 8 (by kernel_rfl) rfl ?_
    refine QA (ACall.F (F := F) (c_laws_eqTerm x19 x23 r25 hr25)) Try.call153 rfl rfl rfl rfl rfl ?_
    refine Qe ?_
    refine Qn 9 (by kernel_rfl) rfl rfl rfl rfl rfl (op_not rfl) ?_
    refine QX (by kernel_rfl) ?_
    refine QF rfl (fun hq => ?_) (fun hq => ?_)
    ·replace hm := QT hq hm
     refine Qk ?_
     refine Qf ?_
     refine Qb rfl rfl rfl rfl (Qh rfl) ?_
     refine Qe ?_
     refine Qm [4] [] rfl rfl rfl rfl (by rw [hF]; rfl) ?_
     refine QH ?_
     obtain rfl := Qr hm
     have hn := QI hc0
     exact hx0 (.inr false) hn
    ·replace hm := QS hq hm
     refine QG ?_
     refine Qf ?_
     refine Qb rfl rfl rfl rfl (Qi rfl) ?_
     refine Qb rfl rfl rfl rfl (Xh rfl rfl) ?_
     refine Qb rfl rfl rfl rfl (Qh rfl) ?_
     refine Qe ?_
     refine Q5 [0, 1, 5] [] rfl rfl rfl rfl (by rw [hF]; rfl) ?_
     obtain rfl := Qr hm
     have hn := QM hc0
     exact hn _ rfl
   ·replace hm := QS hq hm
    refine Qm [] [] rfl rfl rfl rfl (by rw [hF]; rfl) ?_
    refine T_exit ?_
    obtain rfl := Qr hm
    have hn := QI hc0
    exact hx0 (.inl ()) hn
theorem c_laws_eqInstr (p0 : Instr) (p1 : Instr) (out : Bool) (hm : m_laws_eqInstr p0 p1 = some out) : ACall Try.prog 80 [.agg [.int .i64 p0.Op, .int .i64 p0.Arg], .agg [.int .i64 p1.Op, .int .i64 p1.Arg]] [] (.bool out) [] := by
 refine ACall.intro Try.func80 rfl Try.ntmps80 rfl (fun F hF => ?_)
 unfold m_laws_eqInstr at hm
 refine Qk ?_
 refine Qf ?_
 refine TL_box 11 rfl rfl rfl rfl rfl rfl rfl ?_
 refine TL_box 12 rfl rfl rfl rfl rfl rfl rfl ?_
 refine Qb rfl rfl rfl rfl (Qh rfl) ?_
 refine Qe ?_
 refine Qk ?_
 refine Qk ?_
 refine Qf ?_
 refine Qb rfl rfl rfl rfl (Qj fa40_0 rfl rfl) ?_
 refine Qb rfl rfl rfl rfl (Qg ag2 rfl rfl) ?_
 refine Qb rfl rfl rfl rfl (Qj fa40_0 rfl rfl) ?_
 refine Qb rfl rfl rfl rfl (Qg ag2 rfl rfl) ?_
 refine Qb rfl rfl rfl rfl (op_neq rfl rfl) ?_
 refine Qe ?_
 refine QF rfl (fun hq => ?_) (fun hq => ?_)
 ·replace hm := QT hq hm
  refine Qk ?_
  refine Qf ?_
  refine Qb rfl rfl rfl rfl (Qh rfl) ?_
  refine Qe ?_
  refine Qm [4] [] rfl rfl rfl rfl (by rw [hF]; rfl) ?_
  refine QH ?_
  obtain rfl := Qr hm
  refine ⟨[_], [], ⟨rfl, trivial⟩, ?_, rfl, rfl, rfl, rfl⟩
  rfl
 ·replace hm := QS hq hm
  refine QG ?_
  refine Qk ?_
  refine Qk ?_
  refine Qf ?_
  refine Qb rfl rfl rfl rfl (Qj fa40_1 rfl rfl) ?_
  refine Qb rfl rfl rfl rfl (Qg ag2 rfl rfl) ?_
  refine Qb rfl rfl rfl rfl (Qj fa40_1 rfl rfl) ?_
  refine Qb rfl rfl rfl rfl (Qg ag2 rfl rfl) ?_
  refine Qb rfl rfl rfl rfl (op_neq rfl rfl) ?_
  refine Qe ?_
  refine QF rfl (fun hq => ?_) (fun hq => ?_)
  ·replace hm := QT hq hm
   refine Qk ?_
   refine Qf ?_
   refine Qb rfl rfl rfl rfl (Qh rfl) ?_
   refine Qe ?_
   refine Qm [4] [] rfl rfl rfl rfl (by rw [hF]; rfl) ?_
   refine QH ?_
   obtain rfl := Qr hm
   refine ⟨[_], [], ⟨rfl, trivial⟩, ?_, rfl, rfl, rfl, rfl⟩
   rfl
  ·replace hm := QS hq hm
   refine QG ?_
   refine Qk ?_
   refine Qf ?_
   refine Qb rfl rfl rfl rfl (Qh rfl) ?_
   refine Qe ?_
   refine Qm [4] [] rfl rfl rfl rfl (by rw [hF]; rfl) ?_
   refine QH ?_
   obtain rfl := Qr hm
   refine ⟨[_], [], ⟨rfl, trivial⟩, ?_, rfl, rfl, rfl, rfl⟩
   rfl
theorem c_laws_eqInstrS (p0 : List Instr) (p1 : List Instr) (out : Bool) (hm : m_laws_eqInstrS p0 p1 = some out) : ACall Try.prog 27 [.sl 2 (List.map Qd p0), .sl 2 (List.map Qd p1)] [] (.bool out) [] := by
 refine ACall.intro Try.func27 rfl Try.ntmps27 rfl (fun F hF => ?_)
 unfold m_laws_eqInstrS at hm
 refine Qk ?_
 refine Qf ?_
 refine Qb rfl rfl rfl rfl (Qh rfl) ?_
 refine Qe ?_
 refine Qk ?_
 refine Qk ?_
 refine Qf ?_
 refine Qb rfl rfl rfl rfl (Qi rfl) ?_
 refine Qb rfl rfl rfl rfl (Q8 Try.underlying24 rfl (List.length_map _)) ?_
 refine Xg (fun _ _ _ hr => RelP.slLen (i := 6) rfl hr) (fun hlen7 => ?_)
 rw [List.length_map] at hlen7
 refine Qb rfl rfl rfl rfl (Qi rfl) ?_
 refine Qb rfl rfl rfl rfl (Q8 Try.underlying24 rfl (List.length_map _)) ?_
 refine Xg (fun _ _ _ hr => RelP.slLen (i := 8) rfl hr) (fun hlen9 => ?_)
 rw [List.length_map] at hlen9
 refine Qb rfl rfl rfl rfl (op_neq rfl rfl) ?_
 refine Qe ?_
 refine QF rfl (fun hq => ?_) (fun hq => ?_)
 ·replace hm := QT hq hm
  refine Qk ?_
  refine Qf ?_
  refine Qb rfl rfl rfl rfl (Qh rfl) ?_
  refine Qe ?_
  refine Qm [4] [] rfl rfl rfl rfl (by rw [hF]; rfl) ?_
  refine QH ?_
  obtain rfl := Qr hm
  refine ⟨[_], [], ⟨rfl, trivial⟩, ?_, rfl, rfl, rfl, rfl⟩
  rfl
 ·replace hm := QS hq hm
  refine QG ?_
  refine Qk ?_
  refine Qk ?_
  refine Qf ?_
  refine Qb rfl rfl rfl rfl (Qh rfl) ?_
  refine Qe ?_
  refine QV ?_
  refine Qm [0, 1, 5] [] rfl rfl rfl rfl (by rw [hF]; rfl) ?_
  refine T_loop ?_
  obtain ⟨u0, hl0, hm⟩ := Qw hm
  refine TR_iter2 (m_laws_eqInstrS_L0 p0 p1) (fun (s0 : Int) => ⟨[(0, .sl 2 (List.map Qd p0)), (1, .sl 2 (List.map Qd p1)), (5, .int .i64 s0)], []⟩) (fun u0 => match u0 with | .inl u0 => .exit 0 | .inr u0 => .ret) (fun u0 => match u0 with | .inl u0 => ⟨[], []⟩ | .inr u0 => ⟨[(4, .bool u0)], []⟩) (fun u0 => m_laws_eqInstrS_A0 u0 = some out) hl0 hm (fun u0 hm => ?_) (fun hx0 s0 c0 hm hc0 => ?_)
  ·rcases u0 with u0 | u0
   ·unfold m_laws_eqInstrS_A0 at hm
    refine Qk ?_
    refine Qf ?_
    refine Qb rfl rfl rfl rfl (Qh rfl) ?_
    refine Qe ?_
    refine Qm [4] [] rfl rfl rfl rfl (by rw [hF]; rfl) ?_
    refine QH ?_
    obtain rfl := Qr hm
    refine ⟨[_], [], ⟨rfl, trivial⟩, ?_, rfl, rfl, rfl, rfl⟩
    rfl
   ·unfold m_laws_eqInstrS_A0 at hm
    obtain rfl := Qr hm
    refine ⟨[_], [], ⟨rfl, trivial⟩, ?_, rfl, rfl, rfl, rfl⟩
    rfl
  ·unfold m_laws_eqInstrS_L0 at hm
   refine Qk ?_
   refine Qk ?_
   refine Qf ?_
   refine Qb rfl rfl rfl rfl (Qi rfl) ?_
   refine Qb rfl rfl rfl rfl (Qi rfl) ?_
   refine Qb rfl rfl rfl rfl (Q8 Try.underlying24 rfl (List.length_map _)) ?_
   refine Qb rfl rfl rfl rfl (Xd rfl rfl) ?_
   refine Qe ?_
   refine QF rfl (fun hq => ?_) (fun hq => ?_)
   ·replace hm := QT hq hm
    refine QG ?_
    refine Qk ?_
    refine QV ?_
    refine Qk ?_
    refine T_drawZ [] mix (by kernel_rfl) rfl ?_
    obtain ⟨x19, hx19, hm⟩ := Qw hm
    obtain ⟨x23, hx23, hm⟩ := Qw hm
    obtain ⟨r25, hr25, hm⟩ := Qw hm
    refine Qn 0 (by kernel_rfl) rfl rfl rfl rfl rfl (Qi rfl) ?_
    refine Qn 1 (by kernel_rfl) rfl rfl rfl rfl rfl (Qi rfl) ?_
    refine Qn 2 (by kernel_rfl) rfl rfl rfl rfl rfl (QU el24 rfl rfl hx19 rfl) ?_
    refine Qn 3 (by kernel_rfl) rfl rfl rfl rfl rfl (Qv ag40 sz40 rfl rfl rfl) ?_
    refine Qn 4 (by kernel_rfl) rfl rfl rfl rfl rfl (Qi rfl) ?_
    refine Qn 5 (by kernel_rfl) rfl rfl rfl rfl rfl (Qi rfl) ?_
    refine Qn 6 (by kernel_rfl) rfl rfl rfl rfl rfl (QU el24 rfl rfl hx23 rfl) ?_
    refine Qn 7 (by kernel_rfl) rfl rfl rfl rfl rfl (Qv ag40 sz40 rfl rfl rfl) ?_
    refine Qs 8 (by kernel_rfl) rfl ?_
    refine QA (ACall.F (F := F) (c_laws_eqInstr x19 x23 r25 hr25)) Try.call80 rfl rfl rfl rfl rfl ?_
    refine Qe ?_
    refine Qn 9 (by kernel_rfl) rfl rfl rfl rfl rfl (op_not rfl) ?_
    refine QX (by kernel_rfl) ?_
    refine QF rfl (fun hq => ?_) (fun hq => ?_)
    ·replace hm := QT hq hm
     refine Qk ?_
     refine Qf ?_
     refine Qb rfl rfl rfl rfl (Qh rfl) ?_
     refine Qe ?_
     refine Qm [4] [] rfl rfl rfl rfl (by rw [hF]; rfl) ?_
     refine QH ?_
     obtain rfl := Qr hm
     have hn := QI hc0
     exact hx0 (.inr false) hn
    ·replace hm := QS hq hm
     refine QG ?_
     refine Qf ?_
     refine Qb rfl rfl rfl rfl (Qi rfl) ?_
     refine Qb rfl rfl rfl rfl (Xh rfl rfl) ?_
     refine Qb rfl rfl rfl rfl (Qh rfl) ?_
     refine Qe ?_
     refine Q5 [0, 1, 5] [] rfl rfl rfl rfl (by rw [hF]; rfl) ?_
     obtain rfl := Qr hm
     have hn := QM hc0
     exact hn _ rfl
   ·replace hm := QS hq hm
    refine Qm [] [] rfl rfl rfl rfl (by rw [hF]; rfl) ?_
    refine T_exit ?_
    obtain rfl := Qr hm
    have hn := QI hc0
    exact hx0 (.inl ()) hn
theorem c_laws_eqPoint (p0 : Point) (p1 : Point) (out : Bool) (hm : m_laws_eqPoint p0 p1 = some out) : ACall Try.prog 54 [.agg [.int .i64 p0.At, .sl 2 (List.map Qa p0.Facts)], .agg [.int .i64 p1.At, .sl 2 (List.map Qa p1.Facts)]] [] (.bool out) [] := by
 refine ACall.intro Try.func54 rfl Try.ntmps54 rfl (fun F hF => ?_)
 unfold m_laws_eqPoint at hm
 refine Qk ?_
 refine Qf ?_
 refine TL_box 11 rfl rfl rfl rfl rfl rfl rfl ?_
 refine TL_box 12 rfl rfl rfl rfl rfl rfl rfl ?_
 refine Qb rfl rfl rfl rfl (Qh rfl) ?_
 refine Qe ?_
 refine Qk ?_
 refine Qk ?_
 refine Qf ?_
 refine Qb rfl rfl rfl rfl (Qj fa81_0 rfl rfl) ?_
 refine Qb rfl rfl rfl rfl (Qg ag2 rfl rfl) ?_
 refine Qb rfl rfl rfl rfl (Qj fa81_0 rfl rfl) ?_
 refine Qb rfl rfl rfl rfl (Qg ag2 rfl rfl) ?_
 refine Qb rfl rfl rfl rfl (op_neq rfl rfl) ?_
 refine Qe ?_
 refine QF rfl (fun hq => ?_) (fun hq => ?_)
 ·replace hm := QT hq hm
  refine Qk ?_
  refine Qf ?_
  refine Qb rfl rfl rfl rfl (Qh rfl) ?_
  refine Qe ?_
  refine Qm [4] [] rfl rfl rfl rfl (by rw [hF]; rfl) ?_
  refine QH ?_
  obtain rfl := Qr hm
  refine ⟨[_], [], ⟨rfl, trivial⟩, ?_, rfl, rfl, rfl, rfl⟩
  rfl
 ·replace hm := QS hq hm
  refine QG ?_
  refine Qk ?_
  refine Qk ?_
  refine Qf ?_
  refine Qb rfl rfl rfl rfl (Qj fa81_1 rfl rfl) ?_
  refine Qb rfl rfl rfl rfl (Qg ag66 rfl rfl) ?_
  refine Qb rfl rfl rfl rfl (Qj fa81_1 rfl rfl) ?_
  refine Qb rfl rfl rfl rfl (Qg ag66 rfl rfl) ?_
  obtain ⟨r14, hr14, hm⟩ := Qw hm
  refine QA (ACall.F (F := F) (c_laws_eqTermS p0.Facts p1.Facts r14 hr14)) Try.call94 rfl rfl rfl rfl rfl ?_
  refine Qb rfl rfl rfl rfl (op_not rfl) ?_
  refine Qe ?_
  refine QF rfl (fun hq => ?_) (fun hq => ?_)
  ·replace hm := QT hq hm
   refine Qk ?_
   refine Qf ?_
   refine Qb rfl rfl rfl rfl (Qh rfl) ?_
   refine Qe ?_
   refine Qm [4] [] rfl rfl rfl rfl (by rw [hF]; rfl) ?_
   refine QH ?_
   obtain rfl := Qr hm
   refine ⟨[_], [], ⟨rfl, trivial⟩, ?_, rfl, rfl, rfl, rfl⟩
   rfl
  ·replace hm := QS hq hm
   refine QG ?_
   refine Qk ?_
   refine Qf ?_
   refine Qb rfl rfl rfl rfl (Qh rfl) ?_
   refine Qe ?_
   refine Qm [4] [] rfl rfl rfl rfl (by rw [hF]; rfl) ?_
   refine QH ?_
   obtain rfl := Qr hm
   refine ⟨[_], [], ⟨rfl, trivial⟩, ?_, rfl, rfl, rfl, rfl⟩
   rfl
theorem c_laws_eqPointS (p0 : List Point) (p1 : List Point) (out : Bool) (hm : m_laws_eqPointS p0 p1 = some out) : ACall Try.prog 95 [.sl 2 (List.map Qc p0), .sl 2 (List.map Qc p1)] [] (.bool out) [] := by
 refine ACall.intro Try.func95 rfl Try.ntmps95 rfl (fun F hF => ?_)
 unfold m_laws_eqPointS at hm
 refine Qk ?_
 refine Qf ?_
 refine Qb rfl rfl rfl rfl (Qh rfl) ?_
 refine Qe ?_
 refine Qk ?_
 refine Qk ?_
 refine Qf ?_
 refine Qb rfl rfl rfl rfl (Qi rfl) ?_
 refine Qb rfl rfl rfl rfl (Q8 Try.underlying67 rfl (List.length_map _)) ?_
 refine Xg (fun _ _ _ hr => RelP.slLen (i := 6) rfl hr) (fun hlen7 => ?_)
 rw [List.length_map] at hlen7
 refine Qb rfl rfl rfl rfl (Qi rfl) ?_
 refine Qb rfl rfl rfl rfl (Q8 Try.underlying67 rfl (List.length_map _)) ?_
 refine Xg (fun _ _ _ hr => RelP.slLen (i := 8) rfl hr) (fun hlen9 => ?_)
 rw [List.length_map] at hlen9
 refine Qb rfl rfl rfl rfl (op_neq rfl rfl) ?_
 refine Qe ?_
 refine QF rfl (fun hq => ?_) (fun hq => ?_)
 ·replace hm := QT hq hm
  refine Qk ?_
  refine Qf ?_
  refine Qb rfl rfl rfl rfl (Qh rfl) ?_
  refine Qe ?_
  refine Qm [4] [] rfl rfl rfl rfl (by rw [hF]; rfl) ?_
  refine QH ?_
  obtain rfl := Qr hm
  refine ⟨[_], [], ⟨rfl, trivial⟩, ?_, rfl, rfl, rfl, rfl⟩
  rfl
 ·replace hm := QS hq hm
  refine QG ?_
  refine Qk ?_
  refine Qk ?_
  refine Qf ?_
  refine Qb rfl rfl rfl rfl (Qh rfl) ?_
  refine Qe ?_
  refine QV ?_
  refine Qm [0, 1, 5] [] rfl rfl rfl rfl (by rw [hF]; rfl) ?_
  refine T_loop ?_
  obtain ⟨u0, hl0, hm⟩ := Qw hm
  refine TR_iter2 (m_laws_eqPointS_L0 p0 p1) (fun (s0 : Int) => ⟨[(0, .sl 2 (List.map Qc p0)), (1, .sl 2 (List.map Qc p1)), (5, .int .i64 s0)], []⟩) (fun u0 => match u0 with | .inl u0 => .exit 0 | .inr u0 => .ret) (fun u0 => match u0 with | .inl u0 => ⟨[], []⟩ | .inr u0 => ⟨[(4, .bool u0)], []⟩) (fun u0 => m_laws_eqPointS_A0 u0 = some out) hl0 hm (fun u0 hm => ?_) (fun hx0 s0 c0 hm hc0 => ?_)
  ·rcases u0 with u0 | u0
   ·unfold m_laws_eqPointS_A0 at hm
    refine Qk ?_
    refine Qf ?_
    refine Qb rfl rfl rfl rfl (Qh rfl) ?_
    refine Qe ?_
    refine Qm [4] [] rfl rfl rfl rfl (by rw [hF]; rfl) ?_
    refine QH ?_
    obtain rfl := Qr hm
    refine ⟨[_], [], ⟨rfl, trivial⟩, ?_, rfl, rfl, rfl, rfl⟩
    rfl
   ·unfold m_laws_eqPointS_A0 at hm
    obtain rfl := Qr hm
    refine ⟨[_], [], ⟨rfl, trivial⟩, ?_, rfl, rfl, rfl, rfl⟩
    rfl
  ·unfold m_laws_eqPointS_L0 at hm
   refine Qk ?_
   refine Qk ?_
   refine Qf ?_
   refine Qb rfl rfl rfl rfl (Qi rfl) ?_
   refine Qb rfl rfl rfl rfl (Qi rfl) ?_
   refine Qb rfl rfl rfl rfl (Q8 Try.underlying67 rfl (List.length_map _)) ?_
   refine Qb rfl rfl rfl rfl (Xd rfl rfl) ?_
   refine Qe ?_
   refine QF rfl (fun hq => ?_) (fun hq => ?_)
   ·replace hm := QT hq hm
    refine QG ?_
    refine Qk ?_
    refine QV ?_
    refine Qk ?_
    refine T_drawZ [] mix (by kernel_rfl) rfl ?_
    obtain ⟨x19, hx19, hm⟩ := Qw hm
    obtain ⟨x23, hx23, hm⟩ := Qw hm
    obtain ⟨r25, hr25, hm⟩ := Qw hm
    refine Qn 0 (by kernel_rfl) rfl rfl rfl rfl rfl (Qi rfl) ?_
    refine Qn 1 (by kernel_rfl) rfl rfl rfl rfl rfl (Qi rfl) ?_
    refine Qn 2 (by kernel_rfl) rfl rfl rfl rfl rfl (QU el67 rfl rfl hx19 rfl) ?_
    refine Qn 3 (by kernel_rfl) rfl rfl rfl rfl rfl (Qv ag81 sz81 rfl rfl rfl) ?_
    refine Qn 4 (by kernel_rfl) rfl rfl rfl rfl rfl (Qi rfl) ?_
    refine Qn 5 (by kernel_rfl) rfl rfl rfl rfl rfl (Qi rfl) ?_
    refine Qn 6 (by kernel_rfl) rfl rfl rfl rfl rfl (QU el67 rfl rfl hx23 rfl) ?_
    refine Qn 7 (by kernel_rfl) rfl rfl rfl rfl rfl (Qv ag81 sz81 rfl rfl rfl) ?_
    refine Qs 8 (by kernel_rfl) rfl ?_
    refine QA (ACall.F (F := F) (c_laws_eqPoint x19 x23 r25 hr25)) Try.call54 rfl rfl rfl rfl rfl ?_
    refine Qe ?_
    refine Qn 9 (by kernel_rfl) rfl rfl rfl rfl rfl (op_not rfl) ?_
    refine QX (by kernel_rfl) ?_
    refine QF rfl (fun hq => ?_) (fun hq => ?_)
    ·replace hm := QT hq hm
     refine Qk ?_
     refine Qf ?_
     refine Qb rfl rfl rfl rfl (Qh rfl) ?_
     refine Qe ?_
     refine Qm [4] [] rfl rfl rfl rfl (by rw [hF]; rfl) ?_
     refine QH ?_
     obtain rfl := Qr hm
     have hn := QI hc0
     exact hx0 (.inr false) hn
    ·replace hm := QS hq hm
     refine QG ?_
     refine Qf ?_
     refine Qb rfl rfl rfl rfl (Qi rfl) ?_
     refine Qb rfl rfl rfl rfl (Xh rfl rfl) ?_
     refine Qb rfl rfl rfl rfl (Qh rfl) ?_
     refine Qe ?_
     refine Q5 [0, 1, 5] [] rfl rfl rfl rfl (by rw [hF]; rfl) ?_
     obtain rfl := Qr hm
     have hn := QM hc0
     exact hn _ rfl
   ·replace hm := QS hq hm
    refine Qm [] [] rfl rfl rfl rfl (by rw [hF]; rfl) ?_
    refine T_exit ?_
    obtain rfl := Qr hm
    have hn := QI hc0
    exact hx0 (.inl ()) hn
end Go.Mod
