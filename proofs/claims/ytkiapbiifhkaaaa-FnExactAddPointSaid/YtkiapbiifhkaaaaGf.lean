import Derived.Test.YtkiapbiifhkaaaaGe
namespace Go.Mod
open Go Go.AM Go.Proofs
set_option linter.unusedVariables false
set_option linter.unusedSimpArgs false
set_option maxRecDepth 100000
set_option maxHeartbeats 8000000
theorem c_spec_l08Own (p0 : Annotated) (out : Annotated) (hm : m_spec_l08Own p0 = some out) : ACall Try.prog 103 [.cp [.sl 2 (List.map Qa p0.Pre), .sl 2 (List.map Qa p0.Post), .sl 2 (List.map Qd p0.Code), .sl 2 (List.map Qc p0.Points)]] [] (.agg [.ow 1000, .ow 1001, .ow 1002, .ow 1003]) [(1000, .arr ⟨false, true⟩ 2 184 (List.map Qa out.Pre)), (1001, .arr ⟨false, true⟩ 2 184 (List.map Qa out.Post)), (1002, .arr ⟨false, true⟩ 2 40 (List.map Qd out.Code)), (1003, .arr ⟨false, true⟩ 2 81 (List.map Qc out.Points))] := by
 refine ACall.intro Try.func103 rfl Try.ntmps103 rfl (fun F hF => ?_)
 unfold m_spec_l08Own at hm
 refine Qk ?_
 refine Qf ?_
 refine QJ 11 z69 rfl rfl rfl rfl rfl rfl rfl ?_
 refine Qe ?_
 refine T_join (fun (j0 : (List Term) × (List Term)) => ⟨[(0, .cp [.sl 2 (List.map Qa p0.Pre), .sl 2 (List.map Qa p0.Post), .sl 2 (List.map Qd p0.Code), .sl 2 (List.map Qc p0.Points)]), (2, .ptr 11 0 0), (3, .ptr 1452 0 0)], [(11, .box [.snil, .snil, .snil, .snil]), (412, .arr ⟨false, true⟩ 2 184 (List.map Qa j0.1)), (812, .arr ⟨false, true⟩ 2 184 (List.map Qa j0.2)), (892, .arr ⟨false, false⟩ 2 40 (List.map Qd (([] : List Instr) ++ p0.Code))), (1452, .box [.ow 412, .ow 812, .ow 892, .snil])]⟩) (fun j0 => m_spec_l08Own_J0 p0 j0 = some out) (fun j0 hm => ?_) (fun hj0 => ?_)
 ·unfold m_spec_l08Own_J0 at hm
  refine Qk ?_
  refine Qk ?_
  refine Qf ?_
  refine Qb rfl rfl rfl rfl (Qh rfl) ?_
  refine Qe ?_
  refine QV ?_
  refine T_ownNilBox 1452 3 7292 ⟨false, true⟩ 81 rfl rfl rfl (sz := 2) rfl rfl rfl rfl ?_
  refine Qm [0, 2, 3, 4] [11, 412, 812, 892, 1452, 7292] rfl rfl rfl rfl (by rw [hF]; rfl) ?_
  refine T_ren [(11, 11), (412, 412), (812, 812), (892, 892), (1452, 1452), (7292, 70005)] rfl rfl rfl (by rw [hF]; rfl) ?_
  refine T_loop ?_
  obtain ⟨u0, hl0, hm⟩ := Qw hm
  refine TR_iter2 (m_spec_l08Own_L0 p0) (fun (s0 : (List Point) × Int) => ⟨[(0, .cp [.sl 2 (List.map Qa p0.Pre), .sl 2 (List.map Qa p0.Post), .sl 2 (List.map Qd p0.Code), .sl 2 (List.map Qc p0.Points)]), (2, .ptr 11 0 0), (3, .ptr 1452 0 0), (4, .int .i64 s0.2)], [(11, .box [.snil, .snil, .snil, .snil]), (412, .arr ⟨false, true⟩ 2 184 (List.map Qa j0.1)), (812, .arr ⟨false, true⟩ 2 184 (List.map Qa j0.2)), (892, .arr ⟨false, false⟩ 2 40 (List.map Qd (([] : List Instr) ++ p0.Code))), (1452, .box [.ow 412, .ow 812, .ow 892, .ow 70005]), (70005, .arr ⟨false, true⟩ 2 81 (List.map Qc s0.1))]⟩) (fun u0 => .exit 0) (fun u0 => ⟨[(2, .ptr 11 0 0), (3, .ptr 1452 0 0)], [(11, .box [.snil, .snil, .snil, .snil]), (412, .arr ⟨false, true⟩ 2 184 (List.map Qa j0.1)), (812, .arr ⟨false, true⟩ 2 184 (List.map Qa j0.2)), (892, .arr ⟨false, false⟩ 2 40 (List.map Qd (([] : List Instr) ++ p0.Code))), (1452, .box [.ow 412, .ow 812, .ow 892, .ow 70005]), (70005, .arr ⟨false, true⟩ 2 81 (List.map Qc u0))]⟩) (fun u0 => m_spec_l08Own_A0 p0 j0 u0 = some out) hl0 hm (fun u0 hm => ?_) (fun hx0 s0 c0 hm hc0 => ?_)
  ·unfold m_spec_l08Own_A0 at hm
   refine Qk ?_
   refine Qf ?_
   refine Qb rfl rfl rfl rfl (Qv ag69 sz69 rfl rfl rfl) ?_
   refine Qo sz69 rfl rfl rfl rfl rfl rfl rfl rfl rfl ?_
   refine Qe ?_
   refine Qm [2] [11, 412, 812, 892, 70005] rfl rfl rfl rfl (by rw [hF]; rfl) ?_
   refine T_deepen 892 (p' := false) (List.map Qd (([] : List Instr) ++ p0.Code)) (by rw [hF]; rfl) rfl (ElR.map (f := Qd) (g := Qd) (fun _ => ⟨⟨rfl, rfl⟩, ⟨⟨rfl, rfl⟩, trivial⟩⟩) (([] : List Instr) ++ p0.Code)) rfl rfl rfl ?_
   refine T_ren [(11, 11), (412, 1000), (812, 1001), (892, 1002), (70005, 1003)] rfl rfl rfl (by rw [hF]; rfl) ?_
   refine QH ?_
   obtain rfl := Qr hm
   refine ⟨[_], [1000, 1001, 1002, 1003], ⟨⟨_, _, rfl, rfl, .inr ⟨ag69, _, _, sz69, rfl, rfl⟩⟩, trivial⟩, ?_, rfl, rfl, rfl, rfl⟩
   rfl
  ·unfold m_spec_l08Own_L0 at hm
   refine Qk ?_
   refine Qk ?_
   refine Qf ?_
   refine Qb rfl rfl rfl rfl (Qi rfl) ?_
   refine Qb rfl rfl rfl rfl (Qi rfl) ?_
   refine Qb rfl rfl rfl rfl (Xe rfl rfl) ?_
   refine Qb rfl rfl rfl rfl (Qj fa69_3 rfl rfl) ?_
   refine Qb rfl rfl rfl rfl (Qg ag67 rfl rfl) ?_
   refine Qb rfl rfl rfl rfl (Q8 Try.underlying67 rfl (List.length_map _)) ?_
   refine Xg (fun _ _ _ hr => RelP.slLen (i := 26) rfl hr) (fun hlen27 => ?_)
   rw [List.length_map] at hlen27
   refine Qb rfl rfl rfl rfl (Xd rfl rfl) ?_
   refine Qe ?_
   refine QF rfl (fun hq => ?_) (fun hq => ?_)
   ·replace hm := QT hq hm
    refine QG ?_
    refine Qk ?_
    refine QV ?_
    refine T_drawZ [20, 21, 23] mix (by kernel_rfl) rfl ?_
    obtain ⟨x38, hx38, hm⟩ := Qw hm
    obtain ⟨r49, hr49, hm⟩ := Qw hm
    obtain ⟨q52, hq52, hm⟩ := Qw hm
    refine Qn 0 (by kernel_rfl) rfl rfl rfl rfl rfl (Qj fa69_3 rfl rfl) ?_
    refine Qn 2 (by kernel_rfl) rfl rfl rfl rfl rfl (Qi rfl) ?_
    refine Qn 3 (by kernel_rfl) rfl rfl rfl rfl rfl (Xe rfl rfl) ?_
    refine Qn 4 (by kernel_rfl) rfl rfl rfl rfl rfl (Qj fa69_3 rfl rfl) ?_
    refine Qn 6 (by kernel_rfl) rfl rfl rfl rfl rfl (Qi rfl) ?_
    refine Qn 10 (by kernel_rfl) rfl rfl rfl rfl rfl (Qi rfl) ?_
    refine Qn 11 (by kernel_rfl) rfl rfl rfl rfl rfl (Xe rfl rfl) ?_
    refine Qn 12 (by kernel_rfl) rfl rfl rfl rfl rfl (Qj fa69_3 rfl rfl) ?_
    refine Qn 14 (by kernel_rfl) rfl rfl rfl rfl rfl (Qi rfl) ?_
    refine Qy 10 [true, true, true, true, true, true, true, true, true, true, true, true, true, false, true, false, false, false, false, false, false, false, false, false] ⟨[(0, .cp [.sl 2 (List.map Qa p0.Pre), .sl 2 (List.map Qa p0.Post), .sl 2 (List.map Qd p0.Code), .sl 2 (List.map Qc p0.Points)]), (2, .ptr 11 0 0), (3, .ptr 1452 0 0), (4, .int .i64 s0.2), (22, .int .i64 s0.2), (23, .cp [.sl 2 (List.map Qa p0.Pre), .sl 2 (List.map Qa p0.Post), .sl 2 (List.map Qd p0.Code), .sl 2 (List.map Qc p0.Points)]), (24, .cp [.sl 2 (List.map Qa p0.Pre), .sl 2 (List.map Qa p0.Post), .sl 2 (List.map Qd p0.Code), .sl 2 (List.map Qc p0.Points)]), (25, .cp [.sl 2 (List.map Qc p0.Points)]), (26, .sl 2 (List.map Qc p0.Points)), (27, .int .i64 (p0.Points.length : Int)), (28, .bool (decide (s0.2 < (p0.Points.length : Int)))), (31, .ptr 1452 0 3), (32, .ow 70005), (33, .cp [.sl 2 (List.map Qa p0.Pre), .sl 2 (List.map Qa p0.Post), .sl 2 (List.map Qd p0.Code), .sl 2 (List.map Qc p0.Points)]), (34, .cp [.sl 2 (List.map Qa p0.Pre), .sl 2 (List.map Qa p0.Post), .sl 2 (List.map Qd p0.Code), .sl 2 (List.map Qc p0.Points)]), (35, .cp [.sl 2 (List.map Qc p0.Points)]), (36, .sl 2 (List.map Qc p0.Points)), (37, .int .i64 s0.2), (38, .cp [.int .i64 x38.At, .sl 2 (List.map Qa x38.Facts)]), (39, .cp [.int .i64 x38.At]), (40, .int .i64 x38.At), (41, .cp [.sl 2 (List.map Qa p0.Pre), .sl 2 (List.map Qa p0.Post), .sl 2 (List.map Qd p0.Code), .sl 2 (List.map Qc p0.Points)]), (42, .cp [.sl 2 (List.map Qa p0.Pre), .sl 2 (List.map Qa p0.Post), .sl 2 (List.map Qd p0.Code), .sl 2 (List.map Qc p0.Points)]), (43, .cp [.sl 2 (List.map Qc p0.Points)]), (45, .int .i64 s0.2)], [(11, .box [.snil, .snil, .snil, .snil]), (412, .arr ⟨false, true⟩ 2 184 (List.map Qa j0.1)), (812, .arr ⟨false, true⟩ 2 184 (List.map Qa j0.2)), (892, .arr ⟨false, false⟩ 2 40 (List.map Qd (([] : List Instr) ++ p0.Code))), (1452, .box [.ow 412, .ow 812, .ow 892, .ow 70005]), (70005, .arr ⟨false, true⟩ 2 81 (List.map Qc s0.1))]⟩ ?_ (fun hS5371_0 => ?_)
    ·refine Qs 13 (by kernel_rfl) rfl ?_
     refine Qb rfl rfl rfl rfl (Qg ag67 rfl rfl) ?_
     refine Qe ?_
     refine Qn 15 (by kernel_rfl) rfl rfl rfl rfl rfl (QU el67 rfl rfl hx38 rfl) ?_
     refine Qn 16 (by kernel_rfl) rfl rfl rfl rfl rfl (Qj fa81_1 rfl rfl) ?_
     refine Qs 17 (by kernel_rfl) rfl ?_
     refine Qb rfl rfl rfl rfl (Qg ag66 rfl rfl) ?_
     refine Qe ?_
     refine Qs 18 (by kernel_rfl) rfl ?_
     refine Qt [(1000, 6892)] (ACall.F (F := F) (Qp x38.Facts r49 hr49)) Try.call104 rfl rfl rfl rfl rfl rfl rfl rfl rfl rfl rfl rfl rfl ?_
     refine Qe ?_
     refine Qn 19 (by kernel_rfl) rfl rfl rfl rfl rfl (Q3 pl81 z81 rfl rfl rfl rfl rfl) ?_
     refine Qs 20 (by kernel_rfl) rfl ?_
     refine Q6 (ids := [6892]) (es := List.map Qc [(Point.mk x38.At r49)]) 7052 el67 z81 rfl rfl rfl rfl rfl rfl (by rw [hF]; intro j hj; simp only [List.mem_cons, List.not_mem_nil, or_false] at hj; rcases hj with rfl <;> rfl) rfl rfl rfl rfl rfl rfl ?_
     refine Qe ?_
     refine Qs 21 (by kernel_rfl) rfl ?_
     refine TL_appendDT (f := Qc) (a := s0.1) (b := [(Point.mk x38.At r49)]) el67 z81 rfl rfl rfl rfl rfl rfl rfl rfl (by rw [hF]; rfl) (Q9 hq52) rfl rfl rfl rfl rfl ?_
     refine Qe ?_
     refine Qn 22 (by kernel_rfl) rfl rfl rfl rfl rfl (Qj fa69_3 rfl rfl) ?_
     refine Qs 23 (by kernel_rfl) rfl ?_
     refine Qo sz67 rfl rfl rfl rfl rfl rfl rfl rfl rfl ?_
     refine Qe ?_
     refine QX (by kernel_rfl) ?_
     refine Qf ?_
     refine Qb rfl rfl rfl rfl (Qi rfl) ?_
     refine Qb rfl rfl rfl rfl (Xh rfl rfl) ?_
     refine Qb rfl rfl rfl rfl (Qh rfl) ?_
     refine Qe ?_
     refine Q5 [0, 2, 3, 4] [11, 412, 812, 892, 1452, 70005] rfl rfl rfl rfl (by rw [hF]; rfl) ?_
     obtain rfl := Qr hm
     have hn := QM hc0
     exact hn _ rfl
    refine Qy 7 [true, true, true, true, true, true, true, true, true, true, true, true, true, true, true, true, true, false, false, false, false, false, false, false] ⟨[(0, .cp [.sl 2 (List.map Qa p0.Pre), .sl 2 (List.map Qa p0.Post), .sl 2 (List.map Qd p0.Code), .sl 2 (List.map Qc p0.Points)]), (2, .ptr 11 0 0), (3, .ptr 1452 0 0), (4, .int .i64 s0.2), (22, .int .i64 s0.2), (23, .cp [.sl 2 (List.map Qa p0.Pre), .sl 2 (List.map Qa p0.Post), .sl 2 (List.map Qd p0.Code), .sl 2 (List.map Qc p0.Points)]), (24, .cp [.sl 2 (List.map Qa p0.Pre), .sl 2 (List.map Qa p0.Post), .sl 2 (List.map Qd p0.Code), .sl 2 (List.map Qc p0.Points)]), (25, .cp [.sl 2 (List.map Qc p0.Points)]), (26, .sl 2 (List.map Qc p0.Points)), (27, .int .i64 (p0.Points.length : Int)), (28, .bool (decide (s0.2 < (p0.Points.length : Int)))), (31, .ptr 1452 0 3), (32, .ow 70005), (33, .cp [.sl 2 (List.map Qa p0.Pre), .sl 2 (List.map Qa p0.Post), .sl 2 (List.map Qd p0.Code), .sl 2 (List.map Qc p0.Points)]), (34, .cp [.sl 2 (List.map Qa p0.Pre), .sl 2 (List.map Qa p0.Post), .sl 2 (List.map Qd p0.Code), .sl 2 (List.map Qc p0.Points)]), (35, .cp [.sl 2 (List.map Qc p0.Points)]), (36, .sl 2 (List.map Qc p0.Points)), (37, .int .i64 s0.2), (38, .cp [.int .i64 x38.At, .sl 2 (List.map Qa x38.Facts)]), (39, .cp [.int .i64 x38.At]), (40, .int .i64 x38.At), (41, .cp [.sl 2 (List.map Qa p0.Pre), .sl 2 (List.map Qa p0.Post), .sl 2 (List.map Qd p0.Code), .sl 2 (List.map Qc p0.Points)]), (42, .cp [.sl 2 (List.map Qa p0.Pre), .sl 2 (List.map Qa p0.Post), .sl 2 (List.map Qd p0.Code), .sl 2 (List.map Qc p0.Points)]), (43, .cp [.sl 2 (List.map Qc p0.Points)]), (44, .sl 2 (List.map Qc p0.Points)), (45, .int .i64 s0.2), (46, .cp [.int .i64 x38.At, .sl 2 (List.map Qa x38.Facts)]), (47, .cp [.sl 2 (List.map Qa x38.Facts)])], [(11, .box [.snil, .snil, .snil, .snil]), (412, .arr ⟨false, true⟩ 2 184 (List.map Qa j0.1)), (812, .arr ⟨false, true⟩ 2 184 (List.map Qa j0.2)), (892, .arr ⟨false, false⟩ 2 40 (List.map Qd (([] : List Instr) ++ p0.Code))), (1452, .box [.ow 412, .ow 812, .ow 892, .ow 70005]), (70005, .arr ⟨false, true⟩ 2 81 (List.map Qc s0.1))]⟩ ?_ (fun hS5371_1 => ?_)
    ·refine Qs 17 (by kernel_rfl) rfl ?_
     refine Qb rfl rfl rfl rfl (Qg ag66 rfl rfl) ?_
     refine Qe ?_
     refine Qs 18 (by kernel_rfl) rfl ?_
     refine Qt [(1000, 6892)] (ACall.F (F := F) (Qp x38.Facts r49 hr49)) Try.call104 rfl rfl rfl rfl rfl rfl rfl rfl rfl rfl rfl rfl rfl ?_
     refine Qe ?_
     refine Qn 19 (by kernel_rfl) rfl rfl rfl rfl rfl (Q3 pl81 z81 rfl rfl rfl rfl rfl) ?_
     refine Qs 20 (by kernel_rfl) rfl ?_
     refine Q6 (ids := [6892]) (es := List.map Qc [(Point.mk x38.At r49)]) 7052 el67 z81 rfl rfl rfl rfl rfl rfl (by rw [hF]; intro j hj; simp only [List.mem_cons, List.not_mem_nil, or_false] at hj; rcases hj with rfl <;> rfl) rfl rfl rfl rfl rfl rfl ?_
     refine Qe ?_
     refine Qs 21 (by kernel_rfl) rfl ?_
     refine TL_appendDT (f := Qc) (a := s0.1) (b := [(Point.mk x38.At r49)]) el67 z81 rfl rfl rfl rfl rfl rfl rfl rfl (by rw [hF]; rfl) (Q9 hq52) rfl rfl rfl rfl rfl ?_
     refine Qe ?_
     refine Qn 22 (by kernel_rfl) rfl rfl rfl rfl rfl (Qj fa69_3 rfl rfl) ?_
     refine Qs 23 (by kernel_rfl) rfl ?_
     refine Qo sz67 rfl rfl rfl rfl rfl rfl rfl rfl rfl ?_
     refine Qe ?_
     refine QX (by kernel_rfl) ?_
     refine Qf ?_
     refine Qb rfl rfl rfl rfl (Qi rfl) ?_
     refine Qb rfl rfl rfl rfl (Xh rfl rfl) ?_
     refine Qb rfl rfl rfl rfl (Qh rfl) ?_
     refine Qe ?_
     refine Q5 [0, 2, 3, 4] [11, 412, 812, 892, 1452, 70005] rfl rfl rfl rfl (by rw [hF]; rfl) ?_
     obtain rfl := Qr hm
     have hn := QM hc0
     exact hn _ rfl
    refine Qy 6 [true, true, true, true, true, true, true, true, true, true, true, true, true, true, true, true, true, true, false, false, false, false, false, false] ⟨[(0, .cp [.sl 2 (List.map Qa p0.Pre), .sl 2 (List.map Qa p0.Post), .sl 2 (List.map Qd p0.Code), .sl 2 (List.map Qc p0.Points)]), (2, .ptr 11 0 0), (3, .ptr 1452 0 0), (4, .int .i64 s0.2), (22, .int .i64 s0.2), (23, .cp [.sl 2 (List.map Qa p0.Pre), .sl 2 (List.map Qa p0.Post), .sl 2 (List.map Qd p0.Code), .sl 2 (List.map Qc p0.Points)]), (24, .cp [.sl 2 (List.map Qa p0.Pre), .sl 2 (List.map Qa p0.Post), .sl 2 (List.map Qd p0.Code), .sl 2 (List.map Qc p0.Points)]), (25, .cp [.sl 2 (List.map Qc p0.Points)]), (26, .sl 2 (List.map Qc p0.Points)), (27, .int .i64 (p0.Points.length : Int)), (28, .bool (decide (s0.2 < (p0.Points.length : Int)))), (31, .ptr 1452 0 3), (32, .ow 70005), (33, .cp [.sl 2 (List.map Qa p0.Pre), .sl 2 (List.map Qa p0.Post), .sl 2 (List.map Qd p0.Code), .sl 2 (List.map Qc p0.Points)]), (34, .cp [.sl 2 (List.map Qa p0.Pre), .sl 2 (List.map Qa p0.Post), .sl 2 (List.map Qd p0.Code), .sl 2 (List.map Qc p0.Points)]), (35, .cp [.sl 2 (List.map Qc p0.Points)]), (36, .sl 2 (List.map Qc p0.Points)), (37, .int .i64 s0.2), (38, .cp [.int .i64 x38.At, .sl 2 (List.map Qa x38.Facts)]), (39, .cp [.int .i64 x38.At]), (40, .int .i64 x38.At), (41, .cp [.sl 2 (List.map Qa p0.Pre), .sl 2 (List.map Qa p0.Post), .sl 2 (List.map Qd p0.Code), .sl 2 (List.map Qc p0.Points)]), (42, .cp [.sl 2 (List.map Qa p0.Pre), .sl 2 (List.map Qa p0.Post), .sl 2 (List.map Qd p0.Code), .sl 2 (List.map Qc p0.Points)]), (43, .cp [.sl 2 (List.map Qc p0.Points)]), (44, .sl 2 (List.map Qc p0.Points)), (45, .int .i64 s0.2), (46, .cp [.int .i64 x38.At, .sl 2 (List.map Qa x38.Facts)]), (47, .cp [.sl 2 (List.map Qa x38.Facts)]), (48, .sl 2 (List.map Qa x38.Facts))], [(11, .box [.snil, .snil, .snil, .snil]), (412, .arr ⟨false, true⟩ 2 184 (List.map Qa j0.1)), (812, .arr ⟨false, true⟩ 2 184 (List.map Qa j0.2)), (892, .arr ⟨false, false⟩ 2 40 (List.map Qd (([] : List Instr) ++ p0.Code))), (1452, .box [.ow 412, .ow 812, .ow 892, .ow 70005]), (70005, .arr ⟨false, true⟩ 2 81 (List.map Qc s0.1))]⟩ ?_ (fun hS5371_2 => ?_)
    ·refine Qs 18 (by kernel_rfl) rfl ?_
     refine Qt [(1000, 6892)] (ACall.F (F := F) (Qp x38.Facts r49 hr49)) Try.call104 rfl rfl rfl rfl rfl rfl rfl rfl rfl rfl rfl rfl rfl ?_
     refine Qe ?_
     refine Qn 19 (by kernel_rfl) rfl rfl rfl rfl rfl (Q3 pl81 z81 rfl rfl rfl rfl rfl) ?_
     refine Qs 20 (by kernel_rfl) rfl ?_
     refine Q6 (ids := [6892]) (es := List.map Qc [(Point.mk x38.At r49)]) 7052 el67 z81 rfl rfl rfl rfl rfl rfl (by rw [hF]; intro j hj; simp only [List.mem_cons, List.not_mem_nil, or_false] at hj; rcases hj with rfl <;> rfl) rfl rfl rfl rfl rfl rfl ?_
     refine Qe ?_
     refine Qs 21 (by kernel_rfl) rfl ?_
     refine TL_appendDT (f := Qc) (a := s0.1) (b := [(Point.mk x38.At r49)]) el67 z81 rfl rfl rfl rfl rfl rfl rfl rfl (by rw [hF]; rfl) (Q9 hq52) rfl rfl rfl rfl rfl ?_
     refine Qe ?_
     refine Qn 22 (by kernel_rfl) rfl rfl rfl rfl rfl (Qj fa69_3 rfl rfl) ?_
     refine Qs 23 (by kernel_rfl) rfl ?_
     refine Qo sz67 rfl rfl rfl rfl rfl rfl rfl rfl rfl ?_
     refine Qe ?_
     refine QX (by kernel_rfl) ?_
     refine Qf ?_
     refine Qb rfl rfl rfl rfl (Qi rfl) ?_
     refine Qb rfl rfl rfl rfl (Xh rfl rfl) ?_
     refine Qb rfl rfl rfl rfl (Qh rfl) ?_
     refine Qe ?_
     refine Q5 [0, 2, 3, 4] [11, 412, 812, 892, 1452, 70005] rfl rfl rfl rfl (by rw [hF]; rfl) ?_
     obtain rfl := Qr hm
     have hn := QM hc0
     exact hn _ rfl
    refine Qy 6 [true, true, true, true, true, true, true, true, true, false, true, true, true, true, true, true, true, true, true, false, false, false, false, false] ⟨[(0, .cp [.sl 2 (List.map Qa p0.Pre), .sl 2 (List.map Qa p0.Post), .sl 2 (List.map Qd p0.Code), .sl 2 (List.map Qc p0.Points)]), (2, .ptr 11 0 0), (3, .ptr 1452 0 0), (4, .int .i64 s0.2), (22, .int .i64 s0.2), (23, .cp [.sl 2 (List.map Qa p0.Pre), .sl 2 (List.map Qa p0.Post), .sl 2 (List.map Qd p0.Code), .sl 2 (List.map Qc p0.Points)]), (24, .cp [.sl 2 (List.map Qa p0.Pre), .sl 2 (List.map Qa p0.Post), .sl 2 (List.map Qd p0.Code), .sl 2 (List.map Qc p0.Points)]), (25, .cp [.sl 2 (List.map Qc p0.Points)]), (26, .sl 2 (List.map Qc p0.Points)), (27, .int .i64 (p0.Points.length : Int)), (28, .bool (decide (s0.2 < (p0.Points.length : Int)))), (31, .ptr 1452 0 3), (32, .ow 70005), (33, .cp [.sl 2 (List.map Qa p0.Pre), .sl 2 (List.map Qa p0.Post), .sl 2 (List.map Qd p0.Code), .sl 2 (List.map Qc p0.Points)]), (34, .cp [.sl 2 (List.map Qa p0.Pre), .sl 2 (List.map Qa p0.Post), .sl 2 (List.map Qd p0.Code), .sl 2 (List.map Qc p0.Points)]), (35, .cp [.sl 2 (List.map Qc p0.Points)]), (36, .sl 2 (List.map Qc p0.Points)), (37, .int .i64 s0.2), (38, .cp [.int .i64 x38.At, .sl 2 (List.map Qa x38.Facts)]), (39, .cp [.int .i64 x38.At]), (41, .cp [.sl 2 (List.map Qa p0.Pre), .sl 2 (List.map Qa p0.Post), .sl 2 (List.map Qd p0.Code), .sl 2 (List.map Qc p0.Points)]), (42, .cp [.sl 2 (List.map Qa p0.Pre), .sl 2 (List.map Qa p0.Post), .sl 2 (List.map Qd p0.Code), .sl 2 (List.map Qc p0.Points)]), (43, .cp [.sl 2 (List.map Qc p0.Points)]), (44, .sl 2 (List.map Qc p0.Points)), (45, .int .i64 s0.2), (46, .cp [.int .i64 x38.At, .sl 2 (List.map Qa x38.Facts)]), (47, .cp [.sl 2 (List.map Qa x38.Facts)]), (48, .sl 2 (List.map Qa x38.Facts)), (49, .ow 6892)], [(11, .box [.snil, .snil, .snil, .snil]), (412, .arr ⟨false, true⟩ 2 184 (List.map Qa j0.1)), (812, .arr ⟨false, true⟩ 2 184 (List.map Qa j0.2)), (892, .arr ⟨false, false⟩ 2 40 (List.map Qd (([] : List Instr) ++ p0.Code))), (1452, .box [.ow 412, .ow 812, .ow 892, .ow 70005]), (6892, .arr ⟨false, true⟩ 2 184 (List.map Qa r49)), (70005, .arr ⟨false, true⟩ 2 81 (List.map Qc s0.1))]⟩ ?_ (fun hS5371_3 => ?_)
    ·refine Qs 9 (by kernel_rfl) rfl ?_
     refine Qb rfl rfl rfl rfl (Qg ag2 rfl rfl) ?_
     refine Qe ?_
     refine Qn 19 (by kernel_rfl) rfl rfl rfl rfl rfl (Q3 pl81 z81 rfl rfl rfl rfl rfl) ?_
     refine Qs 20 (by kernel_rfl) rfl ?_
     refine Q6 (ids := [6892]) (es := List.map Qc [(Point.mk x38.At r49)]) 7052 el67 z81 rfl rfl rfl rfl rfl rfl (by rw [hF]; intro j hj; simp only [List.mem_cons, List.not_mem_nil, or_false] at hj; rcases hj with rfl <;> rfl) rfl rfl rfl rfl rfl rfl ?_
     refine Qe ?_
     refine Qs 21 (by kernel_rfl) rfl ?_
     refine TL_appendDT (f := Qc) (a := s0.1) (b := [(Point.mk x38.At r49)]) el67 z81 rfl rfl rfl rfl rfl rfl rfl rfl (by rw [hF]; rfl) (Q9 hq52) rfl rfl rfl rfl rfl ?_
     refine Qe ?_
     refine Qn 22 (by kernel_rfl) rfl rfl rfl rfl rfl (Qj fa69_3 rfl rfl) ?_
     refine Qs 23 (by kernel_rfl) rfl ?_
     refine Qo sz67 rfl rfl rfl rfl rfl rfl rfl rfl rfl ?_
     refine Qe ?_
     refine QX (by kernel_rfl) ?_
     refine Qf ?_
     refine Qb rfl rfl rfl rfl (Qi rfl) ?_
     refine Qb rfl rfl rfl rfl (Xh rfl rfl) ?_
     refine Qb rfl rfl rfl rfl (Qh rfl) ?_
     refine Qe ?_
     refine Q5 [0, 2, 3, 4] [11, 412, 812, 892, 1452, 70005] rfl rfl rfl rfl (by rw [hF]; rfl) ?_
     obtain rfl := Qr hm
     have hn := QM hc0
     exact hn _ rfl
    refine Qy 7 [true, true, true, true, true, true, true, true, true, false, true, true, true, true, true, true, true, true, false, false, false, false, false, false] ⟨[(0, .cp [.sl 2 (List.map Qa p0.Pre), .sl 2 (List.map Qa p0.Post), .sl 2 (List.map Qd p0.Code), .sl 2 (List.map Qc p0.Points)]), (2, .ptr 11 0 0), (3, .ptr 1452 0 0), (4, .int .i64 s0.2), (22, .int .i64 s0.2), (23, .cp [.sl 2 (List.map Qa p0.Pre), .sl 2 (List.map Qa p0.Post), .sl 2 (List.map Qd p0.Code), .sl 2 (List.map Qc p0.Points)]), (24, .cp [.sl 2 (List.map Qa p0.Pre), .sl 2 (List.map Qa p0.Post), .sl 2 (List.map Qd p0.Code), .sl 2 (List.map Qc p0.Points)]), (25, .cp [.sl 2 (List.map Qc p0.Points)]), (26, .sl 2 (List.map Qc p0.Points)), (27, .int .i64 (p0.Points.length : Int)), (28, .bool (decide (s0.2 < (p0.Points.length : Int)))), (31, .ptr 1452 0 3), (32, .ow 70005), (33, .cp [.sl 2 (List.map Qa p0.Pre), .sl 2 (List.map Qa p0.Post), .sl 2 (List.map Qd p0.Code), .sl 2 (List.map Qc p0.Points)]), (34, .cp [.sl 2 (List.map Qa p0.Pre), .sl 2 (List.map Qa p0.Post), .sl 2 (List.map Qd p0.Code), .sl 2 (List.map Qc p0.Points)]), (35, .cp [.sl 2 (List.map Qc p0.Points)]), (36, .sl 2 (List.map Qc p0.Points)), (37, .int .i64 s0.2), (38, .cp [.int .i64 x38.At, .sl 2 (List.map Qa x38.Facts)]), (39, .cp [.int .i64 x38.At]), (41, .cp [.sl 2 (List.map Qa p0.Pre), .sl 2 (List.map Qa p0.Post), .sl 2 (List.map Qd p0.Code), .sl 2 (List.map Qc p0.Points)]), (42, .cp [.sl 2 (List.map Qa p0.Pre), .sl 2 (List.map Qa p0.Post), .sl 2 (List.map Qd p0.Code), .sl 2 (List.map Qc p0.Points)]), (43, .cp [.sl 2 (List.map Qc p0.Points)]), (44, .sl 2 (List.map Qc p0.Points)), (45, .int .i64 s0.2), (46, .cp [.int .i64 x38.At, .sl 2 (List.map Qa x38.Facts)]), (47, .cp [.sl 2 (List.map Qa x38.Facts)]), (48, .sl 2 (List.map Qa x38.Facts))], [(11, .box [.snil, .snil, .snil, .snil]), (412, .arr ⟨false, true⟩ 2 184 (List.map Qa j0.1)), (812, .arr ⟨false, true⟩ 2 184 (List.map Qa j0.2)), (892, .arr ⟨false, false⟩ 2 40 (List.map Qd (([] : List Instr) ++ p0.Code))), (1452, .box [.ow 412, .ow 812, .ow 892, .ow 70005]), (70005, .arr ⟨false, true⟩ 2 81 (List.map Qc s0.1))]⟩ ?_ (fun hS5371_4 => ?_)
    ·refine Qz [9, 18] (by kernel_rfl) rfl ?_
     refine ⟨?_, ?_⟩
     ·refine ⟨_, rfl, ?_⟩
      refine Qb rfl rfl rfl rfl (Qg ag2 rfl rfl) ?_
      refine Qe ?_
      refine Ql [0, 2, 3, 4, 22, 23, 24, 25, 26, 27, 28, 31, 32, 33, 34, 35, 36, 37, 38, 39, 40, 41, 42, 43, 44, 45, 46, 47, 48] [11, 412, 812, 892, 1452, 70005] rfl rfl rfl rfl (by rw [hF]; rfl) ?_
      exact hS5371_2
     ·refine ⟨_, rfl, ?_⟩
      refine Qt [(1000, 6892)] (ACall.F (F := F) (Qp x38.Facts r49 hr49)) Try.call104 rfl rfl rfl rfl rfl rfl rfl rfl rfl rfl rfl rfl rfl ?_
      refine Qe ?_
      refine Ql [0, 2, 3, 4, 22, 23, 24, 25, 26, 27, 28, 31, 32, 33, 34, 35, 36, 37, 38, 39, 41, 42, 43, 44, 45, 46, 47, 48, 49] [11, 412, 812, 892, 1452, 6892, 70005] rfl rfl rfl rfl (by rw [hF]; rfl) ?_
      exact hS5371_3
    refine Qy 10 [true, true, true, true, true, true, true, true, true, false, true, true, true, true, true, false, false, false, false, false, false, false, false, false] ⟨[(0, .cp [.sl 2 (List.map Qa p0.Pre), .sl 2 (List.map Qa p0.Post), .sl 2 (List.map Qd p0.Code), .sl 2 (List.map Qc p0.Points)]), (2, .ptr 11 0 0), (3, .ptr 1452 0 0), (4, .int .i64 s0.2), (22, .int .i64 s0.2), (23, .cp [.sl 2 (List.map Qa p0.Pre), .sl 2 (List.map Qa p0.Post), .sl 2 (List.map Qd p0.Code), .sl 2 (List.map Qc p0.Points)]), (24, .cp [.sl 2 (List.map Qa p0.Pre), .sl 2 (List.map Qa p0.Post), .sl 2 (List.map Qd p0.Code), .sl 2 (List.map Qc p0.Points)]), (25, .cp [.sl 2 (List.map Qc p0.Points)]), (26, .sl 2 (List.map Qc p0.Points)), (27, .int .i64 (p0.Points.length : Int)), (28, .bool (decide (s0.2 < (p0.Points.length : Int)))), (31, .ptr 1452 0 3), (32, .ow 70005), (33, .cp [.sl 2 (List.map Qa p0.Pre), .sl 2 (List.map Qa p0.Post), .sl 2 (List.map Qd p0.Code), .sl 2 (List.map Qc p0.Points)]), (34, .cp [.sl 2 (List.map Qa p0.Pre), .sl 2 (List.map Qa p0.Post), .sl 2 (List.map Qd p0.Code), .sl 2 (List.map Qc p0.Points)]), (35, .cp [.sl 2 (List.map Qc p0.Points)]), (36, .sl 2 (List.map Qc p0.Points)), (37, .int .i64 s0.2), (38, .cp [.int .i64 x38.At, .sl 2 (List.map Qa x38.Facts)]), (39, .cp [.int .i64 x38.At]), (41, .cp [.sl 2 (List.map Qa p0.Pre), .sl 2 (List.map Qa p0.Post), .sl 2 (List.map Qd p0.Code), .sl 2 (List.map Qc p0.Points)]), (42, .cp [.sl 2 (List.map Qa p0.Pre), .sl 2 (List.map Qa p0.Post), .sl 2 (List.map Qd p0.Code), .sl 2 (List.map Qc p0.Points)]), (43, .cp [.sl 2 (List.map Qc p0.Points)]), (44, .sl 2 (List.map Qc p0.Points)), (45, .int .i64 s0.2)], [(11, .box [.snil, .snil, .snil, .snil]), (412, .arr ⟨false, true⟩ 2 184 (List.map Qa j0.1)), (812, .arr ⟨false, true⟩ 2 184 (List.map Qa j0.2)), (892, .arr ⟨false, false⟩ 2 40 (List.map Qd (([] : List Instr) ++ p0.Code))), (1452, .box [.ow 412, .ow 812, .ow 892, .ow 70005]), (70005, .arr ⟨false, true⟩ 2 81 (List.map Qc s0.1))]⟩ ?_ (fun hS5371_5 => ?_)
    ·refine Qn 15 (by kernel_rfl) rfl rfl rfl rfl rfl (QU el67 rfl rfl hx38 rfl) ?_
     refine Qn 16 (by kernel_rfl) rfl rfl rfl rfl rfl (Qj fa81_1 rfl rfl) ?_
     refine Qz [9, 17] (by kernel_rfl) rfl ?_
     refine ⟨?_, ?_⟩
     ·refine ⟨_, rfl, ?_⟩
      refine Qb rfl rfl rfl rfl (Qg ag2 rfl rfl) ?_
      refine Qe ?_
      refine Ql [0, 2, 3, 4, 22, 23, 24, 25, 26, 27, 28, 31, 32, 33, 34, 35, 36, 37, 38, 39, 40, 41, 42, 43, 44, 45, 46, 47] [11, 412, 812, 892, 1452, 70005] rfl rfl rfl rfl (by rw [hF]; rfl) ?_
      exact hS5371_1
     ·refine ⟨_, rfl, ?_⟩
      refine Qb rfl rfl rfl rfl (Qg ag66 rfl rfl) ?_
      refine Qe ?_
      refine Ql [0, 2, 3, 4, 22, 23, 24, 25, 26, 27, 28, 31, 32, 33, 34, 35, 36, 37, 38, 39, 41, 42, 43, 44, 45, 46, 47, 48] [11, 412, 812, 892, 1452, 70005] rfl rfl rfl rfl (by rw [hF]; rfl) ?_
      exact hS5371_4
    refine Qy 13 [true, true, true, true, true, true, true, false, false, false, true, true, true, false, true, false, false, false, false, false, false, false, false, false] ⟨[(0, .cp [.sl 2 (List.map Qa p0.Pre), .sl 2 (List.map Qa p0.Post), .sl 2 (List.map Qd p0.Code), .sl 2 (List.map Qc p0.Points)]), (2, .ptr 11 0 0), (3, .ptr 1452 0 0), (4, .int .i64 s0.2), (22, .int .i64 s0.2), (23, .cp [.sl 2 (List.map Qa p0.Pre), .sl 2 (List.map Qa p0.Post), .sl 2 (List.map Qd p0.Code), .sl 2 (List.map Qc p0.Points)]), (24, .cp [.sl 2 (List.map Qa p0.Pre), .sl 2 (List.map Qa p0.Post), .sl 2 (List.map Qd p0.Code), .sl 2 (List.map Qc p0.Points)]), (25, .cp [.sl 2 (List.map Qc p0.Points)]), (26, .sl 2 (List.map Qc p0.Points)), (27, .int .i64 (p0.Points.length : Int)), (28, .bool (decide (s0.2 < (p0.Points.length : Int)))), (31, .ptr 1452 0 3), (32, .ow 70005), (33, .cp [.sl 2 (List.map Qa p0.Pre), .sl 2 (List.map Qa p0.Post), .sl 2 (List.map Qd p0.Code), .sl 2 (List.map Qc p0.Points)]), (34, .cp [.sl 2 (List.map Qa p0.Pre), .sl 2 (List.map Qa p0.Post), .sl 2 (List.map Qd p0.Code), .sl 2 (List.map Qc p0.Points)]), (35, .cp [.sl 2 (List.map Qc p0.Points)]), (36, .sl 2 (List.map Qc p0.Points)), (37, .int .i64 s0.2), (41, .cp [.sl 2 (List.map Qa p0.Pre), .sl 2 (List.map Qa p0.Post), .sl 2 (List.map Qd p0.Code), .sl 2 (List.map Qc p0.Points)]), (42, .cp [.sl 2 (List.map Qa p0.Pre), .sl 2 (List.map Qa p0.Post), .sl 2 (List.map Qd p0.Code), .sl 2 (List.map Qc p0.Points)]), (43, .cp [.sl 2 (List.map Qc p0.Points)]), (45, .int .i64 s0.2)], [(11, .box [.snil, .snil, .snil, .snil]), (412, .arr ⟨false, true⟩ 2 184 (List.map Qa j0.1)), (812, .arr ⟨false, true⟩ 2 184 (List.map Qa j0.2)), (892, .arr ⟨false, false⟩ 2 40 (List.map Qd (([] : List Instr) ++ p0.Code))), (1452, .box [.ow 412, .ow 812, .ow 892, .ow 70005]), (70005, .arr ⟨false, true⟩ 2 81 (List.map Qc s0.1))]⟩ ?_ (fun hS5371_6 => ?_)
    ·refine Qn 7 (by kernel_rfl) rfl rfl rfl rfl rfl (QU el67 rfl rfl hx38 rfl) ?_
     refine Qn 8 (by kernel_rfl) rfl rfl rfl rfl rfl (QY (n := 1) fa81_0 rfl rfl rfl) ?_
     refine Qz [9, 13] (by kernel_rfl) rfl ?_
     refine ⟨?_, ?_⟩
     ·refine ⟨_, rfl, ?_⟩
      refine Qb rfl rfl rfl rfl (Qg ag2 rfl rfl) ?_
      refine Qe ?_
      refine Ql [0, 2, 3, 4, 22, 23, 24, 25, 26, 27, 28, 31, 32, 33, 34, 35, 36, 37, 38, 39, 40, 41, 42, 43, 45] [11, 412, 812, 892, 1452, 70005] rfl rfl rfl rfl (by rw [hF]; rfl) ?_
      exact hS5371_0
     ·refine ⟨_, rfl, ?_⟩
      refine Qb rfl rfl rfl rfl (Qg ag67 rfl rfl) ?_
      refine Qe ?_
      refine Ql [0, 2, 3, 4, 22, 23, 24, 25, 26, 27, 28, 31, 32, 33, 34, 35, 36, 37, 38, 39, 41, 42, 43, 44, 45] [11, 412, 812, 892, 1452, 70005] rfl rfl rfl rfl (by rw [hF]; rfl) ?_
      exact hS5371_5
    refine Qy 10 [true, true, true, true, true, true, true, false, false, false, true, true, true, true, true, true, true, false, false, false, false, false, false, false] ⟨[(0, .cp [.sl 2 (List.map Qa p0.Pre), .sl 2 (List.map Qa p0.Post), .sl 2 (List.map Qd p0.Code), .sl 2 (List.map Qc p0.Points)]), (2, .ptr 11 0 0), (3, .ptr 1452 0 0), (4, .int .i64 s0.2), (22, .int .i64 s0.2), (23, .cp [.sl 2 (List.map Qa p0.Pre), .sl 2 (List.map Qa p0.Post), .sl 2 (List.map Qd p0.Code), .sl 2 (List.map Qc p0.Points)]), (24, .cp [.sl 2 (List.map Qa p0.Pre), .sl 2 (List.map Qa p0.Post), .sl 2 (List.map Qd p0.Code), .sl 2 (List.map Qc p0.Points)]), (25, .cp [.sl 2 (List.map Qc p0.Points)]), (26, .sl 2 (List.map Qc p0.Points)), (27, .int .i64 (p0.Points.length : Int)), (28, .bool (decide (s0.2 < (p0.Points.length : Int)))), (31, .ptr 1452 0 3), (32, .ow 70005), (33, .cp [.sl 2 (List.map Qa p0.Pre), .sl 2 (List.map Qa p0.Post), .sl 2 (List.map Qd p0.Code), .sl 2 (List.map Qc p0.Points)]), (34, .cp [.sl 2 (List.map Qa p0.Pre), .sl 2 (List.map Qa p0.Post), .sl 2 (List.map Qd p0.Code), .sl 2 (List.map Qc p0.Points)]), (35, .cp [.sl 2 (List.map Qc p0.Points)]), (36, .sl 2 (List.map Qc p0.Points)), (37, .int .i64 s0.2), (41, .cp [.sl 2 (List.map Qa p0.Pre), .sl 2 (List.map Qa p0.Post), .sl 2 (List.map Qd p0.Code), .sl 2 (List.map Qc p0.Points)]), (42, .cp [.sl 2 (List.map Qa p0.Pre), .sl 2 (List.map Qa p0.Post), .sl 2 (List.map Qd p0.Code), .sl 2 (List.map Qc p0.Points)]), (43, .cp [.sl 2 (List.map Qc p0.Points)]), (44, .sl 2 (List.map Qc p0.Points)), (45, .int .i64 s0.2), (46, .cp [.int .i64 x38.At, .sl 2 (List.map Qa x38.Facts)]), (47, .cp [.sl 2 (List.map Qa x38.Facts)])], [(11, .box [.snil, .snil, .snil, .snil]), (412, .arr ⟨false, true⟩ 2 184 (List.map Qa j0.1)), (812, .arr ⟨false, true⟩ 2 184 (List.map Qa j0.2)), (892, .arr ⟨false, false⟩ 2 40 (List.map Qd (([] : List Instr) ++ p0.Code))), (1452, .box [.ow 412, .ow 812, .ow 892, .ow 70005]), (70005, .arr ⟨false, true⟩ 2 81 (List.map Qc s0.1))]⟩ ?_ (fun hS5371_7 => ?_)
    ·refine Qn 7 (by kernel_rfl) rfl rfl rfl rfl rfl (QU el67 rfl rfl hx38 rfl) ?_
     refine Qn 8 (by kernel_rfl) rfl rfl rfl rfl rfl (QY (n := 1) fa81_0 rfl rfl rfl) ?_
     refine Qz [9, 17] (by kernel_rfl) rfl ?_
     refine ⟨?_, ?_⟩
     ·refine ⟨_, rfl, ?_⟩
      refine Qb rfl rfl rfl rfl (Qg ag2 rfl rfl) ?_
      refine Qe ?_
      refine Ql [0, 2, 3, 4, 22, 23, 24, 25, 26, 27, 28, 31, 32, 33, 34, 35, 36, 37, 38, 39, 40, 41, 42, 43, 44, 45, 46, 47] [11, 412, 812, 892, 1452, 70005] rfl rfl rfl rfl (by rw [hF]; rfl) ?_
      exact hS5371_1
     ·refine ⟨_, rfl, ?_⟩
      refine Qb rfl rfl rfl rfl (Qg ag66 rfl rfl) ?_
      refine Qe ?_
      refine Ql [0, 2, 3, 4, 22, 23, 24, 25, 26, 27, 28, 31, 32, 33, 34, 35, 36, 37, 38, 39, 41, 42, 43, 44, 45, 46, 47, 48] [11, 412, 812, 892, 1452, 70005] rfl rfl rfl rfl (by rw [hF]; rfl) ?_
      exact hS5371_4
    refine Qy 9 [true, true, true, true, true, true, true, false, false, false, true, true, true, true, true, true, true, true, false, false, false, false, false, false] ⟨[(0, .cp [.sl 2 (List.map Qa p0.Pre), .sl 2 (List.map Qa p0.Post), .sl 2 (List.map Qd p0.Code), .sl 2 (List.map Qc p0.Points)]), (2, .ptr 11 0 0), (3, .ptr 1452 0 0), (4, .int .i64 s0.2), (22, .int .i64 s0.2), (23, .cp [.sl 2 (List.map Qa p0.Pre), .sl 2 (List.map Qa p0.Post), .sl 2 (List.map Qd p0.Code), .sl 2 (List.map Qc p0.Points)]), (24, .cp [.sl 2 (List.map Qa p0.Pre), .sl 2 (List.map Qa p0.Post), .sl 2 (List.map Qd p0.Code), .sl 2 (List.map Qc p0.Points)]), (25, .cp [.sl 2 (List.map Qc p0.Points)]), (26, .sl 2 (List.map Qc p0.Points)), (27, .int .i64 (p0.Points.length : Int)), (28, .bool (decide (s0.2 < (p0.Points.length : Int)))), (31, .ptr 1452 0 3), (32, .ow 70005), (33, .cp [.sl 2 (List.map Qa p0.Pre), .sl 2 (List.map Qa p0.Post), .sl 2 (List.map Qd p0.Code), .sl 2 (List.map Qc p0.Points)]), (34, .cp [.sl 2 (List.map Qa p0.Pre), .sl 2 (List.map Qa p0.Post), .sl 2 (List.map Qd p0.Code), .sl 2 (List.map Qc p0.Points)]), (35, .cp [.sl 2 (List.map Qc p0.Points)]), (36, .sl 2 (List.map Qc p0.Points)), (37, .int .i64 s0.2), (41, .cp [.sl 2 (List.map Qa p0.Pre), .sl 2 (List.map Qa p0.Post), .sl 2 (List.map Qd p0.Code), .sl 2 (List.map Qc p0.Points)]), (42, .cp [.sl 2 (List.map Qa p0.Pre), .sl 2 (List.map Qa p0.Post), .sl 2 (List.map Qd p0.Code), .sl 2 (List.map Qc p0.Points)]), (43, .cp [.sl 2 (List.map Qc p0.Points)]), (44, .sl 2 (List.map Qc p0.Points)), (45, .int .i64 s0.2), (46, .cp [.int .i64 x38.At, .sl 2 (List.map Qa x38.Facts)]), (47, .cp [.sl 2 (List.map Qa x38.Facts)]), (48, .sl 2 (List.map Qa x38.Facts))], [(11, .box [.snil, .snil, .snil, .snil]), (412, .arr ⟨false, true⟩ 2 184 (List.map Qa j0.1)), (812, .arr ⟨false, true⟩ 2 184 (List.map Qa j0.2)), (892, .arr ⟨false, false⟩ 2 40 (List.map Qd (([] : List Instr) ++ p0.Code))), (1452, .box [.ow 412, .ow 812, .ow 892, .ow 70005]), (70005, .arr ⟨false, true⟩ 2 81 (List.map Qc s0.1))]⟩ ?_ (fun hS5371_8 => ?_)
    ·refine Qn 7 (by kernel_rfl) rfl rfl rfl rfl rfl (QU el67 rfl rfl hx38 rfl) ?_
     refine Qn 8 (by kernel_rfl) rfl rfl rfl rfl rfl (QY (n := 1) fa81_0 rfl rfl rfl) ?_
     refine Qz [9, 18] (by kernel_rfl) rfl ?_
     refine ⟨?_, ?_⟩
     ·refine ⟨_, rfl, ?_⟩
      refine Qb rfl rfl rfl rfl (Qg ag2 rfl rfl) ?_
      refine Qe ?_
      refine Ql [0, 2, 3, 4, 22, 23, 24, 25, 26, 27, 28, 31, 32, 33, 34, 35, 36, 37, 38, 39, 40, 41, 42, 43, 44, 45, 46, 47, 48] [11, 412, 812, 892, 1452, 70005] rfl rfl rfl rfl (by rw [hF]; rfl) ?_
      exact hS5371_2
     ·refine ⟨_, rfl, ?_⟩
      refine Qt [(1000, 6892)] (ACall.F (F := F) (Qp x38.Facts r49 hr49)) Try.call104 rfl rfl rfl rfl rfl rfl rfl rfl rfl rfl rfl rfl rfl ?_
      refine Qe ?_
      refine Ql [0, 2, 3, 4, 22, 23, 24, 25, 26, 27, 28, 31, 32, 33, 34, 35, 36, 37, 38, 39, 41, 42, 43, 44, 45, 46, 47, 48, 49] [11, 412, 812, 892, 1452, 6892, 70005] rfl rfl rfl rfl (by rw [hF]; rfl) ?_
      exact hS5371_3
    refine Qy 9 [true, true, true, true, true, false, true, false, false, false, true, true, true, true, true, true, true, true, true, false, false, false, false, false] ⟨[(0, .cp [.sl 2 (List.map Qa p0.Pre), .sl 2 (List.map Qa p0.Post), .sl 2 (List.map Qd p0.Code), .sl 2 (List.map Qc p0.Points)]), (2, .ptr 11 0 0), (3, .ptr 1452 0 0), (4, .int .i64 s0.2), (22, .int .i64 s0.2), (23, .cp [.sl 2 (List.map Qa p0.Pre), .sl 2 (List.map Qa p0.Post), .sl 2 (List.map Qd p0.Code), .sl 2 (List.map Qc p0.Points)]), (24, .cp [.sl 2 (List.map Qa p0.Pre), .sl 2 (List.map Qa p0.Post), .sl 2 (List.map Qd p0.Code), .sl 2 (List.map Qc p0.Points)]), (25, .cp [.sl 2 (List.map Qc p0.Points)]), (26, .sl 2 (List.map Qc p0.Points)), (27, .int .i64 (p0.Points.length : Int)), (28, .bool (decide (s0.2 < (p0.Points.length : Int)))), (31, .ptr 1452 0 3), (32, .ow 70005), (33, .cp [.sl 2 (List.map Qa p0.Pre), .sl 2 (List.map Qa p0.Post), .sl 2 (List.map Qd p0.Code), .sl 2 (List.map Qc p0.Points)]), (34, .cp [.sl 2 (List.map Qa p0.Pre), .sl 2 (List.map Qa p0.Post), .sl 2 (List.map Qd p0.Code), .sl 2 (List.map Qc p0.Points)]), (35, .cp [.sl 2 (List.map Qc p0.Points)]), (37, .int .i64 s0.2), (41, .cp [.sl 2 (List.map Qa p0.Pre), .sl 2 (List.map Qa p0.Post), .sl 2 (List.map Qd p0.Code), .sl 2 (List.map Qc p0.Points)]), (42, .cp [.sl 2 (List.map Qa p0.Pre), .sl 2 (List.map Qa p0.Post), .sl 2 (List.map Qd p0.Code), .sl 2 (List.map Qc p0.Points)]), (43, .cp [.sl 2 (List.map Qc p0.Points)]), (44, .sl 2 (List.map Qc p0.Points)), (45, .int .i64 s0.2), (46, .cp [.int .i64 x38.At, .sl 2 (List.map Qa x38.Facts)]), (47, .cp [.sl 2 (List.map Qa x38.Facts)]), (48, .sl 2 (List.map Qa x38.Facts)), (49, .ow 6892)], [(11, .box [.snil, .snil, .snil, .snil]), (412, .arr ⟨false, true⟩ 2 184 (List.map Qa j0.1)), (812, .arr ⟨false, true⟩ 2 184 (List.map Qa j0.2)), (892, .arr ⟨false, false⟩ 2 40 (List.map Qd (([] : List Instr) ++ p0.Code))), (1452, .box [.ow 412, .ow 812, .ow 892, .ow 70005]), (6892, .arr ⟨false, true⟩ 2 184 (List.map Qa r49)), (70005, .arr ⟨false, true⟩ 2 81 (List.map Qc s0.1))]⟩ ?_ (fun hS5371_9 => ?_)
    ·refine Qs 5 (by kernel_rfl) rfl ?_
     refine Qb rfl rfl rfl rfl (Qg ag67 rfl rfl) ?_
     refine Qe ?_
     refine Qn 7 (by kernel_rfl) rfl rfl rfl rfl rfl (QU el67 rfl rfl hx38 rfl) ?_
     refine Qn 8 (by kernel_rfl) rfl rfl rfl rfl rfl (QY (n := 1) fa81_0 rfl rfl rfl) ?_
     refine Qs 9 (by kernel_rfl) rfl ?_
     refine Qb rfl rfl rfl rfl (Qg ag2 rfl rfl) ?_
     refine Qe ?_
     refine Qn 19 (by kernel_rfl) rfl rfl rfl rfl rfl (Q3 pl81 z81 rfl rfl rfl rfl rfl) ?_
     refine Qs 20 (by kernel_rfl) rfl ?_
     refine Q6 (ids := [6892]) (es := List.map Qc [(Point.mk x38.At r49)]) 7052 el67 z81 rfl rfl rfl rfl rfl rfl (by rw [hF]; intro j hj; simp only [List.mem_cons, List.not_mem_nil, or_false] at hj; rcases hj with rfl <;> rfl) rfl rfl rfl rfl rfl rfl ?_
     refine Qe ?_
     refine Qs 21 (by kernel_rfl) rfl ?_
     refine TL_appendDT (f := Qc) (a := s0.1) (b := [(Point.mk x38.At r49)]) el67 z81 rfl rfl rfl rfl rfl rfl rfl rfl (by rw [hF]; rfl) (Q9 hq52) rfl rfl rfl rfl rfl ?_
     refine Qe ?_
     refine Qn 22 (by kernel_rfl) rfl rfl rfl rfl rfl (Qj fa69_3 rfl rfl) ?_
     refine Qs 23 (by kernel_rfl) rfl ?_
     refine Qo sz67 rfl rfl rfl rfl rfl rfl rfl rfl rfl ?_
     refine Qe ?_
     refine QX (by kernel_rfl) ?_
     refine Qf ?_
     refine Qb rfl rfl rfl rfl (Qi rfl) ?_
     refine Qb rfl rfl rfl rfl (Xh rfl rfl) ?_
     refine Qb rfl rfl rfl rfl (Qh rfl) ?_
     refine Qe ?_
     refine Q5 [0, 2, 3, 4] [11, 412, 812, 892, 1452, 70005] rfl rfl rfl rfl (by rw [hF]; rfl) ?_
     obtain rfl := Qr hm
     have hn := QM hc0
     exact hn _ rfl
    refine Qy 10 [true, true, true, true, true, false, true, false, false, false, true, true, true, true, true, true, true, true, false, false, false, false, false, false] ⟨[(0, .cp [.sl 2 (List.map Qa p0.Pre), .sl 2 (List.map Qa p0.Post), .sl 2 (List.map Qd p0.Code), .sl 2 (List.map Qc p0.Points)]), (2, .ptr 11 0 0), (3, .ptr 1452 0 0), (4, .int .i64 s0.2), (22, .int .i64 s0.2), (23, .cp [.sl 2 (List.map Qa p0.Pre), .sl 2 (List.map Qa p0.Post), .sl 2 (List.map Qd p0.Code), .sl 2 (List.map Qc p0.Points)]), (24, .cp [.sl 2 (List.map Qa p0.Pre), .sl 2 (List.map Qa p0.Post), .sl 2 (List.map Qd p0.Code), .sl 2 (List.map Qc p0.Points)]), (25, .cp [.sl 2 (List.map Qc p0.Points)]), (26, .sl 2 (List.map Qc p0.Points)), (27, .int .i64 (p0.Points.length : Int)), (28, .bool (decide (s0.2 < (p0.Points.length : Int)))), (31, .ptr 1452 0 3), (32, .ow 70005), (33, .cp [.sl 2 (List.map Qa p0.Pre), .sl 2 (List.map Qa p0.Post), .sl 2 (List.map Qd p0.Code), .sl 2 (List.map Qc p0.Points)]), (34, .cp [.sl 2 (List.map Qa p0.Pre), .sl 2 (List.map Qa p0.Post), .sl 2 (List.map Qd p0.Code), .sl 2 (List.map Qc p0.Points)]), (35, .cp [.sl 2 (List.map Qc p0.Points)]), (37, .int .i64 s0.2), (41, .cp [.sl 2 (List.map Qa p0.Pre), .sl 2 (List.map Qa p0.Post), .sl 2 (List.map Qd p0.Code), .sl 2 (List.map Qc p0.Points)]), (42, .cp [.sl 2 (List.map Qa p0.Pre), .sl 2 (List.map Qa p0.Post), .sl 2 (List.map Qd p0.Code), .sl 2 (List.map Qc p0.Points)]), (43, .cp [.sl 2 (List.map Qc p0.Points)]), (44, .sl 2 (List.map Qc p0.Points)), (45, .int .i64 s0.2), (46, .cp [.int .i64 x38.At, .sl 2 (List.map Qa x38.Facts)]), (47, .cp [.sl 2 (List.map Qa x38.Facts)]), (48, .sl 2 (List.map Qa x38.Facts))], [(11, .box [.snil, .snil, .snil, .snil]), (412, .arr ⟨false, true⟩ 2 184 (List.map Qa j0.1)), (812, .arr ⟨false, true⟩ 2 184 (List.map Qa j0.2)), (892, .arr ⟨false, false⟩ 2 40 (List.map Qd (([] : List Instr) ++ p0.Code))), (1452, .box [.ow 412, .ow 812, .ow 892, .ow 70005]), (70005, .arr ⟨false, true⟩ 2 81 (List.map Qc s0.1))]⟩ ?_ (fun hS5371_10 => ?_)
    ·refine Qz [5, 18] (by kernel_rfl) rfl ?_
     refine ⟨?_, ?_⟩
     ·refine ⟨_, rfl, ?_⟩
      refine Qb rfl rfl rfl rfl (Qg ag67 rfl rfl) ?_
      refine Qe ?_
      refine Ql [0, 2, 3, 4, 22, 23, 24, 25, 26, 27, 28, 31, 32, 33, 34, 35, 36, 37, 41, 42, 43, 44, 45, 46, 47, 48] [11, 412, 812, 892, 1452, 70005] rfl rfl rfl rfl (by rw [hF]; rfl) ?_
      exact hS5371_8
     ·refine ⟨_, rfl, ?_⟩
      refine Qt [(1000, 6892)] (ACall.F (F := F) (Qp x38.Facts r49 hr49)) Try.call104 rfl rfl rfl rfl rfl rfl rfl rfl rfl rfl rfl rfl rfl ?_
      refine Qe ?_
      refine Ql [0, 2, 3, 4, 22, 23, 24, 25, 26, 27, 28, 31, 32, 33, 34, 35, 37, 41, 42, 43, 44, 45, 46, 47, 48, 49] [11, 412, 812, 892, 1452, 6892, 70005] rfl rfl rfl rfl (by rw [hF]; rfl) ?_
      exact hS5371_9
    refine Qy 13 [true, true, true, true, true, false, true, false, false, false, true, true, true, true, true, false, false, false, false, false, false, false, false, false] ⟨[(0, .cp [.sl 2 (List.map Qa p0.Pre), .sl 2 (List.map Qa p0.Post), .sl 2 (List.map Qd p0.Code), .sl 2 (List.map Qc p0.Points)]), (2, .ptr 11 0 0), (3, .ptr 1452 0 0), (4, .int .i64 s0.2), (22, .int .i64 s0.2), (23, .cp [.sl 2 (List.map Qa p0.Pre), .sl 2 (List.map Qa p0.Post), .sl 2 (List.map Qd p0.Code), .sl 2 (List.map Qc p0.Points)]), (24, .cp [.sl 2 (List.map Qa p0.Pre), .sl 2 (List.map Qa p0.Post), .sl 2 (List.map Qd p0.Code), .sl 2 (List.map Qc p0.Points)]), (25, .cp [.sl 2 (List.map Qc p0.Points)]), (26, .sl 2 (List.map Qc p0.Points)), (27, .int .i64 (p0.Points.length : Int)), (28, .bool (decide (s0.2 < (p0.Points.length : Int)))), (31, .ptr 1452 0 3), (32, .ow 70005), (33, .cp [.sl 2 (List.map Qa p0.Pre), .sl 2 (List.map Qa p0.Post), .sl 2 (List.map Qd p0.Code), .sl 2 (List.map Qc p0.Points)]), (34, .cp [.sl 2 (List.map Qa p0.Pre), .sl 2 (List.map Qa p0.Post), .sl 2 (List.map Qd p0.Code), .sl 2 (List.map Qc p0.Points)]), (35, .cp [.sl 2 (List.map Qc p0.Points)]), (37, .int .i64 s0.2), (41, .cp [.sl 2 (List.map Qa p0.Pre), .sl 2 (List.map Qa p0.Post), .sl 2 (List.map Qd p0.Code), .sl 2 (List.map Qc p0.Points)]), (42, .cp [.sl 2 (List.map Qa p0.Pre), .sl 2 (List.map Qa p0.Post), .sl 2 (List.map Qd p0.Code), .sl 2 (List.map Qc p0.Points)]), (43, .cp [.sl 2 (List.map Qc p0.Points)]), (44, .sl 2 (List.map Qc p0.Points)), (45, .int .i64 s0.2)], [(11, .box [.snil, .snil, .snil, .snil]), (412, .arr ⟨false, true⟩ 2 184 (List.map Qa j0.1)), (812, .arr ⟨false, true⟩ 2 184 (List.map Qa j0.2)), (892, .arr ⟨false, false⟩ 2 40 (List.map Qd (([] : List Instr) ++ p0.Code))), (1452, .box [.ow 412, .ow 812, .ow 892, .ow 70005]), (70005, .arr ⟨false, true⟩ 2 81 (List.map Qc s0.1))]⟩ ?_ (fun hS5371_11 => ?_)
    ·refine Qn 15 (by kernel_rfl) rfl rfl rfl rfl rfl (QU el67 rfl rfl hx38 rfl) ?_
     refine Qn 16 (by kernel_rfl) rfl rfl rfl rfl rfl (Qj fa81_1 rfl rfl) ?_
     refine Qz [5, 17] (by kernel_rfl) rfl ?_
     refine ⟨?_, ?_⟩
     ·refine ⟨_, rfl, ?_⟩
      refine Qb rfl rfl rfl rfl (Qg ag67 rfl rfl) ?_
      refine Qe ?_
      refine Ql [0, 2, 3, 4, 22, 23, 24, 25, 26, 27, 28, 31, 32, 33, 34, 35, 36, 37, 41, 42, 43, 44, 45, 46, 47] [11, 412, 812, 892, 1452, 70005] rfl rfl rfl rfl (by rw [hF]; rfl) ?_
      exact hS5371_7
     ·refine ⟨_, rfl, ?_⟩
      refine Qb rfl rfl rfl rfl (Qg ag66 rfl rfl) ?_
      refine Qe ?_
      refine Ql [0, 2, 3, 4, 22, 23, 24, 25, 26, 27, 28, 31, 32, 33, 34, 35, 37, 41, 42, 43, 44, 45, 46, 47, 48] [11, 412, 812, 892, 1452, 70005] rfl rfl rfl rfl (by rw [hF]; rfl) ?_
      exact hS5371_10
    refine Qy 14 [true, true, true, true, true, false, true, false, false, false, true, true, true, false, true, false, false, false, false, false, false, false, false, false] ⟨[(0, .cp [.sl 2 (List.map Qa p0.Pre), .sl 2 (List.map Qa p0.Post), .sl 2 (List.map Qd p0.Code), .sl 2 (List.map Qc p0.Points)]), (2, .ptr 11 0 0), (3, .ptr 1452 0 0), (4, .int .i64 s0.2), (22, .int .i64 s0.2), (23, .cp [.sl 2 (List.map Qa p0.Pre), .sl 2 (List.map Qa p0.Post), .sl 2 (List.map Qd p0.Code), .sl 2 (List.map Qc p0.Points)]), (24, .cp [.sl 2 (List.map Qa p0.Pre), .sl 2 (List.map Qa p0.Post), .sl 2 (List.map Qd p0.Code), .sl 2 (List.map Qc p0.Points)]), (25, .cp [.sl 2 (List.map Qc p0.Points)]), (26, .sl 2 (List.map Qc p0.Points)), (27, .int .i64 (p0.Points.length : Int)), (28, .bool (decide (s0.2 < (p0.Points.length : Int)))), (31, .ptr 1452 0 3), (32, .ow 70005), (33, .cp [.sl 2 (List.map Qa p0.Pre), .sl 2 (List.map Qa p0.Post), .sl 2 (List.map Qd p0.Code), .sl 2 (List.map Qc p0.Points)]), (34, .cp [.sl 2 (List.map Qa p0.Pre), .sl 2 (List.map Qa p0.Post), .sl 2 (List.map Qd p0.Code), .sl 2 (List.map Qc p0.Points)]), (35, .cp [.sl 2 (List.map Qc p0.Points)]), (37, .int .i64 s0.2), (41, .cp [.sl 2 (List.map Qa p0.Pre), .sl 2 (List.map Qa p0.Post), .sl 2 (List.map Qd p0.Code), .sl 2 (List.map Qc p0.Points)]), (42, .cp [.sl 2 (List.map Qa p0.Pre), .sl 2 (List.map Qa p0.Post), .sl 2 (List.map Qd p0.Code), .sl 2 (List.map Qc p0.Points)]), (43, .cp [.sl 2 (List.map Qc p0.Points)]), (45, .int .i64 s0.2)], [(11, .box [.snil, .snil, .snil, .snil]), (412, .arr ⟨false, true⟩ 2 184 (List.map Qa j0.1)), (812, .arr ⟨false, true⟩ 2 184 (List.map Qa j0.2)), (892, .arr ⟨false, false⟩ 2 40 (List.map Qd (([] : List Instr) ++ p0.Code))), (1452, .box [.ow 412, .ow 812, .ow 892, .ow 70005]), (70005, .arr ⟨false, true⟩ 2 81 (List.map Qc s0.1))]⟩ ?_ (fun hS5371_12 => ?_)
    ·refine Qz [5, 13] (by kernel_rfl) rfl ?_
     refine ⟨?_, ?_⟩
     ·refine ⟨_, rfl, ?_⟩
      refine Qb rfl rfl rfl rfl (Qg ag67 rfl rfl) ?_
      refine Qe ?_
      refine Ql [0, 2, 3, 4, 22, 23, 24, 25, 26, 27, 28, 31, 32, 33, 34, 35, 36, 37, 41, 42, 43, 45] [11, 412, 812, 892, 1452, 70005] rfl rfl rfl rfl (by rw [hF]; rfl) ?_
      exact hS5371_6
     ·refine ⟨_, rfl, ?_⟩
      refine Qb rfl rfl rfl rfl (Qg ag67 rfl rfl) ?_
      refine Qe ?_
      refine Ql [0, 2, 3, 4, 22, 23, 24, 25, 26, 27, 28, 31, 32, 33, 34, 35, 37, 41, 42, 43, 44, 45] [11, 412, 812, 892, 1452, 70005] rfl rfl rfl rfl (by rw [hF]; rfl) ?_
      exact hS5371_11
    refine Qy 11 [true, true, true, true, true, true, true, true, true, false, true, true, true, false, true, false, false, false, false, false, false, false, false, false] ⟨[(0, .cp [.sl 2 (List.map Qa p0.Pre), .sl 2 (List.map Qa p0.Post), .sl 2 (List.map Qd p0.Code), .sl 2 (List.map Qc p0.Points)]), (2, .ptr 11 0 0), (3, .ptr 1452 0 0), (4, .int .i64 s0.2), (22, .int .i64 s0.2), (23, .cp [.sl 2 (List.map Qa p0.Pre), .sl 2 (List.map Qa p0.Post), .sl 2 (List.map Qd p0.Code), .sl 2 (List.map Qc p0.Points)]), (24, .cp [.sl 2 (List.map Qa p0.Pre), .sl 2 (List.map Qa p0.Post), .sl 2 (List.map Qd p0.Code), .sl 2 (List.map Qc p0.Points)]), (25, .cp [.sl 2 (List.map Qc p0.Points)]), (26, .sl 2 (List.map Qc p0.Points)), (27, .int .i64 (p0.Points.length : Int)), (28, .bool (decide (s0.2 < (p0.Points.length : Int)))), (31, .ptr 1452 0 3), (32, .ow 70005), (33, .cp [.sl 2 (List.map Qa p0.Pre), .sl 2 (List.map Qa p0.Post), .sl 2 (List.map Qd p0.Code), .sl 2 (List.map Qc p0.Points)]), (34, .cp [.sl 2 (List.map Qa p0.Pre), .sl 2 (List.map Qa p0.Post), .sl 2 (List.map Qd p0.Code), .sl 2 (List.map Qc p0.Points)]), (35, .cp [.sl 2 (List.map Qc p0.Points)]), (36, .sl 2 (List.map Qc p0.Points)), (37, .int .i64 s0.2), (38, .cp [.int .i64 x38.At, .sl 2 (List.map Qa x38.Facts)]), (39, .cp [.int .i64 x38.At]), (41, .cp [.sl 2 (List.map Qa p0.Pre), .sl 2 (List.map Qa p0.Post), .sl 2 (List.map Qd p0.Code), .sl 2 (List.map Qc p0.Points)]), (42, .cp [.sl 2 (List.map Qa p0.Pre), .sl 2 (List.map Qa p0.Post), .sl 2 (List.map Qd p0.Code), .sl 2 (List.map Qc p0.Points)]), (43, .cp [.sl 2 (List.map Qc p0.Points)]), (45, .int .i64 s0.2)], [(11, .box [.snil, .snil, .snil, .snil]), (412, .arr ⟨false, true⟩ 2 184 (List.map Qa j0.1)), (812, .arr ⟨false, true⟩ 2 184 (List.map Qa j0.2)), (892, .arr ⟨false, false⟩ 2 40 (List.map Qd (([] : List Instr) ++ p0.Code))), (1452, .box [.ow 412, .ow 812, .ow 892, .ow 70005]), (70005, .arr ⟨false, true⟩ 2 81 (List.map Qc s0.1))]⟩ ?_ (fun hS5371_13 => ?_)
    ·refine Qz [9, 13] (by kernel_rfl) rfl ?_
     refine ⟨?_, ?_⟩
     ·refine ⟨_, rfl, ?_⟩
      refine Qb rfl rfl rfl rfl (Qg ag2 rfl rfl) ?_
      refine Qe ?_
      refine Ql [0, 2, 3, 4, 22, 23, 24, 25, 26, 27, 28, 31, 32, 33, 34, 35, 36, 37, 38, 39, 40, 41, 42, 43, 45] [11, 412, 812, 892, 1452, 70005] rfl rfl rfl rfl (by rw [hF]; rfl) ?_
      exact hS5371_0
     ·refine ⟨_, rfl, ?_⟩
      refine Qb rfl rfl rfl rfl (Qg ag67 rfl rfl) ?_
      refine Qe ?_
      refine Ql [0, 2, 3, 4, 22, 23, 24, 25, 26, 27, 28, 31, 32, 33, 34, 35, 36, 37, 38, 39, 41, 42, 43, 44, 45] [11, 412, 812, 892, 1452, 70005] rfl rfl rfl rfl (by rw [hF]; rfl) ?_
      exact hS5371_5
    refine Qy 4 [true, true, true, true, true, true, true, true, true, true, true, true, true, true, true, true, true, true, true, true, false, false, false, false] ⟨[(0, .cp [.sl 2 (List.map Qa p0.Pre), .sl 2 (List.map Qa p0.Post), .sl 2 (List.map Qd p0.Code), .sl 2 (List.map Qc p0.Points)]), (2, .ptr 11 0 0), (3, .ptr 1452 0 0), (4, .int .i64 s0.2), (22, .int .i64 s0.2), (23, .cp [.sl 2 (List.map Qa p0.Pre), .sl 2 (List.map Qa p0.Post), .sl 2 (List.map Qd p0.Code), .sl 2 (List.map Qc p0.Points)]), (24, .cp [.sl 2 (List.map Qa p0.Pre), .sl 2 (List.map Qa p0.Post), .sl 2 (List.map Qd p0.Code), .sl 2 (List.map Qc p0.Points)]), (25, .cp [.sl 2 (List.map Qc p0.Points)]), (26, .sl 2 (List.map Qc p0.Points)), (27, .int .i64 (p0.Points.length : Int)), (28, .bool (decide (s0.2 < (p0.Points.length : Int)))), (31, .ptr 1452 0 3), (32, .ow 70005), (33, .cp [.sl 2 (List.map Qa p0.Pre), .sl 2 (List.map Qa p0.Post), .sl 2 (List.map Qd p0.Code), .sl 2 (List.map Qc p0.Points)]), (34, .cp [.sl 2 (List.map Qa p0.Pre), .sl 2 (List.map Qa p0.Post), .sl 2 (List.map Qd p0.Code), .sl 2 (List.map Qc p0.Points)]), (35, .cp [.sl 2 (List.map Qc p0.Points)]), (36, .sl 2 (List.map Qc p0.Points)), (37, .int .i64 s0.2), (38, .cp [.int .i64 x38.At, .sl 2 (List.map Qa x38.Facts)]), (39, .cp [.int .i64 x38.At]), (40, .int .i64 x38.At), (41, .cp [.sl 2 (List.map Qa p0.Pre), .sl 2 (List.map Qa p0.Post), .sl 2 (List.map Qd p0.Code), .sl 2 (List.map Qc p0.Points)]), (42, .cp [.sl 2 (List.map Qa p0.Pre), .sl 2 (List.map Qa p0.Post), .sl 2 (List.map Qd p0.Code), .sl 2 (List.map Qc p0.Points)]), (43, .cp [.sl 2 (List.map Qc p0.Points)]), (44, .sl 2 (List.map Qc p0.Points)), (45, .int .i64 s0.2), (46, .cp [.int .i64 x38.At, .sl 2 (List.map Qa x38.Facts)]), (47, .cp [.sl 2 (List.map Qa x38.Facts)]), (48, .sl 2 (List.map Qa x38.Facts)), (49, .ow 6892), (50, .agg [.int .i64 x38.At, .ow 6892])], [(11, .box [.snil, .snil, .snil, .snil]), (412, .arr ⟨false, true⟩ 2 184 (List.map Qa j0.1)), (812, .arr ⟨false, true⟩ 2 184 (List.map Qa j0.2)), (892, .arr ⟨false, false⟩ 2 40 (List.map Qd (([] : List Instr) ++ p0.Code))), (1452, .box [.ow 412, .ow 812, .ow 892, .ow 70005]), (6892, .arr ⟨false, true⟩ 2 184 (List.map Qa r49)), (70005, .arr ⟨false, true⟩ 2 81 (List.map Qc s0.1))]⟩ ?_ (fun hS5371_14 => ?_)
    ·refine Qs 20 (by kernel_rfl) rfl ?_
     refine Q6 (ids := [6892]) (es := List.map Qc [(Point.mk x38.At r49)]) 7052 el67 z81 rfl rfl rfl rfl rfl rfl (by rw [hF]; intro j hj; simp only [List.mem_cons, List.not_mem_nil, or_false] at hj; rcases hj with rfl <;> rfl) rfl rfl rfl rfl rfl rfl ?_
     refine Qe ?_
     refine Qs 21 (by kernel_rfl) rfl ?_
     refine TL_appendDT (f := Qc) (a := s0.1) (b := [(Point.mk x38.At r49)]) el67 z81 rfl rfl rfl rfl rfl rfl rfl rfl (by rw [hF]; rfl) (Q9 hq52) rfl rfl rfl rfl rfl ?_
     refine Qe ?_
     refine Qn 22 (by kernel_rfl) rfl rfl rfl rfl rfl (Qj fa69_3 rfl rfl) ?_
     refine Qs 23 (by kernel_rfl) rfl ?_
     refine Qo sz67 rfl rfl rfl rfl rfl rfl rfl rfl rfl ?_
     refine Qe ?_
     refine QX (by kernel_rfl) ?_
     refine Qf ?_
     refine Qb rfl rfl rfl rfl (Qi rfl) ?_
     refine Qb rfl rfl rfl rfl (Xh rfl rfl) ?_
     refine Qb rfl rfl rfl rfl (Qh rfl) ?_
     refine Qe ?_
     refine Q5 [0, 2, 3, 4] [11, 412, 812, 892, 1452, 70005] rfl rfl rfl rfl (by rw [hF]; rfl) ?_
     obtain rfl := Qr hm
     have hn := QM hc0
     exact hn _ rfl
    refine Qy 4 [true, false, true, true, true, true, true, true, true, true, true, true, true, true, true, true, true, true, true, true, true, false, false, false] ⟨[(0, .cp [.sl 2 (List.map Qa p0.Pre), .sl 2 (List.map Qa p0.Post), .sl 2 (List.map Qd p0.Code), .sl 2 (List.map Qc p0.Points)]), (2, .ptr 11 0 0), (3, .ptr 1452 0 0), (4, .int .i64 s0.2), (22, .int .i64 s0.2), (23, .cp [.sl 2 (List.map Qa p0.Pre), .sl 2 (List.map Qa p0.Post), .sl 2 (List.map Qd p0.Code), .sl 2 (List.map Qc p0.Points)]), (24, .cp [.sl 2 (List.map Qa p0.Pre), .sl 2 (List.map Qa p0.Post), .sl 2 (List.map Qd p0.Code), .sl 2 (List.map Qc p0.Points)]), (25, .cp [.sl 2 (List.map Qc p0.Points)]), (26, .sl 2 (List.map Qc p0.Points)), (27, .int .i64 (p0.Points.length : Int)), (28, .bool (decide (s0.2 < (p0.Points.length : Int)))), (31, .ptr 1452 0 3), (33, .cp [.sl 2 (List.map Qa p0.Pre), .sl 2 (List.map Qa p0.Post), .sl 2 (List.map Qd p0.Code), .sl 2 (List.map Qc p0.Points)]), (34, .cp [.sl 2 (List.map Qa p0.Pre), .sl 2 (List.map Qa p0.Post), .sl 2 (List.map Qd p0.Code), .sl 2 (List.map Qc p0.Points)]), (35, .cp [.sl 2 (List.map Qc p0.Points)]), (36, .sl 2 (List.map Qc p0.Points)), (37, .int .i64 s0.2), (38, .cp [.int .i64 x38.At, .sl 2 (List.map Qa x38.Facts)]), (39, .cp [.int .i64 x38.At]), (40, .int .i64 x38.At), (41, .cp [.sl 2 (List.map Qa p0.Pre), .sl 2 (List.map Qa p0.Post), .sl 2 (List.map Qd p0.Code), .sl 2 (List.map Qc p0.Points)]), (42, .cp [.sl 2 (List.map Qa p0.Pre), .sl 2 (List.map Qa p0.Post), .sl 2 (List.map Qd p0.Code), .sl 2 (List.map Qc p0.Points)]), (43, .cp [.sl 2 (List.map Qc p0.Points)]), (44, .sl 2 (List.map Qc p0.Points)), (45, .int .i64 s0.2), (46, .cp [.int .i64 x38.At, .sl 2 (List.map Qa x38.Facts)]), (47, .cp [.sl 2 (List.map Qa x38.Facts)]), (48, .sl 2 (List.map Qa x38.Facts)), (49, .junk), (50, .junk), (51, .ow 7052)], [(11, .box [.snil, .snil, .snil, .snil]), (412, .arr ⟨false, true⟩ 2 184 (List.map Qa j0.1)), (812, .arr ⟨false, true⟩ 2 184 (List.map Qa j0.2)), (892, .arr ⟨false, false⟩ 2 40 (List.map Qd (([] : List Instr) ++ p0.Code))), (1452, .box [.ow 412, .ow 812, .ow 892, .ow 70005]), (7052, .arr ⟨false, true⟩ 2 81 (List.map Qc [(Point.mk x38.At r49)])), (70005, .arr ⟨false, true⟩ 2 81 (List.map Qc s0.1))]⟩ ?_ (fun hS5371_15 => ?_)
    ·refine Qn 1 (by kernel_rfl) rfl rfl rfl rfl rfl (Qg ag67 rfl rfl) ?_
     refine Qs 21 (by kernel_rfl) rfl ?_
     refine TL_appendDT (f := Qc) (a := s0.1) (b := [(Point.mk x38.At r49)]) el67 z81 rfl rfl rfl rfl rfl rfl rfl rfl (by rw [hF]; rfl) (Q9 hq52) rfl rfl rfl rfl rfl ?_
     refine Qe ?_
     refine Qn 22 (by kernel_rfl) rfl rfl rfl rfl rfl (Qj fa69_3 rfl rfl) ?_
     refine Qs 23 (by kernel_rfl) rfl ?_
     refine Qo sz67 rfl rfl rfl rfl rfl rfl rfl rfl rfl ?_
     refine Qe ?_
     refine QX (by kernel_rfl) ?_
     refine Qf ?_
     refine Qb rfl rfl rfl rfl (Qi rfl) ?_
     refine Qb rfl rfl rfl rfl (Xh rfl rfl) ?_
     refine Qb rfl rfl rfl rfl (Qh rfl) ?_
     refine Qe ?_
     refine Q5 [0, 2, 3, 4] [11, 412, 812, 892, 1452, 70005] rfl rfl rfl rfl (by rw [hF]; rfl) ?_
     obtain rfl := Qr hm
     have hn := QM hc0
     exact hn _ rfl
    refine Qy 6 [true, false, true, true, true, true, true, true, true, true, true, true, true, true, true, true, true, true, true, false, false, false, false, false] ⟨[(0, .cp [.sl 2 (List.map Qa p0.Pre), .sl 2 (List.map Qa p0.Post), .sl 2 (List.map Qd p0.Code), .sl 2 (List.map Qc p0.Points)]), (2, .ptr 11 0 0), (3, .ptr 1452 0 0), (4, .int .i64 s0.2), (22, .int .i64 s0.2), (23, .cp [.sl 2 (List.map Qa p0.Pre), .sl 2 (List.map Qa p0.Post), .sl 2 (List.map Qd p0.Code), .sl 2 (List.map Qc p0.Points)]), (24, .cp [.sl 2 (List.map Qa p0.Pre), .sl 2 (List.map Qa p0.Post), .sl 2 (List.map Qd p0.Code), .sl 2 (List.map Qc p0.Points)]), (25, .cp [.sl 2 (List.map Qc p0.Points)]), (26, .sl 2 (List.map Qc p0.Points)), (27, .int .i64 (p0.Points.length : Int)), (28, .bool (decide (s0.2 < (p0.Points.length : Int)))), (31, .ptr 1452 0 3), (33, .cp [.sl 2 (List.map Qa p0.Pre), .sl 2 (List.map Qa p0.Post), .sl 2 (List.map Qd p0.Code), .sl 2 (List.map Qc p0.Points)]), (34, .cp [.sl 2 (List.map Qa p0.Pre), .sl 2 (List.map Qa p0.Post), .sl 2 (List.map Qd p0.Code), .sl 2 (List.map Qc p0.Points)]), (35, .cp [.sl 2 (List.map Qc p0.Points)]), (36, .sl 2 (List.map Qc p0.Points)), (37, .int .i64 s0.2), (38, .cp [.int .i64 x38.At, .sl 2 (List.map Qa x38.Facts)]), (39, .cp [.int .i64 x38.At]), (40, .int .i64 x38.At), (41, .cp [.sl 2 (List.map Qa p0.Pre), .sl 2 (List.map Qa p0.Post), .sl 2 (List.map Qd p0.Code), .sl 2 (List.map Qc p0.Points)]), (42, .cp [.sl 2 (List.map Qa p0.Pre), .sl 2 (List.map Qa p0.Post), .sl 2 (List.map Qd p0.Code), .sl 2 (List.map Qc p0.Points)]), (43, .cp [.sl 2 (List.map Qc p0.Points)]), (44, .sl 2 (List.map Qc p0.Points)), (45, .int .i64 s0.2), (46, .cp [.int .i64 x38.At, .sl 2 (List.map Qa x38.Facts)]), (47, .cp [.sl 2 (List.map Qa x38.Facts)]), (48, .sl 2 (List.map Qa x38.Facts)), (49, .ow 6892)], [(11, .box [.snil, .snil, .snil, .snil]), (412, .arr ⟨false, true⟩ 2 184 (List.map Qa j0.1)), (812, .arr ⟨false, true⟩ 2 184 (List.map Qa j0.2)), (892, .arr ⟨false, false⟩ 2 40 (List.map Qd (([] : List Instr) ++ p0.Code))), (1452, .box [.ow 412, .ow 812, .ow 892, .ow 70005]), (6892, .arr ⟨false, true⟩ 2 184 (List.map Qa r49)), (70005, .arr ⟨false, true⟩ 2 81 (List.map Qc s0.1))]⟩ ?_ (fun hS5371_16 => ?_)
    ·refine Qn 19 (by kernel_rfl) rfl rfl rfl rfl rfl (Q3 pl81 z81 rfl rfl rfl rfl rfl) ?_
     refine Qz [1, 20] (by kernel_rfl) rfl ?_
     refine ⟨?_, ?_⟩
     ·refine ⟨_, rfl, ?_⟩
      refine Qb rfl rfl rfl rfl (Qg ag67 rfl rfl) ?_
      refine Qe ?_
      refine Ql [0, 2, 3, 4, 22, 23, 24, 25, 26, 27, 28, 31, 32, 33, 34, 35, 36, 37, 38, 39, 40, 41, 42, 43, 44, 45, 46, 47, 48, 49, 50] [11, 412, 812, 892, 1452, 6892, 70005] rfl rfl rfl rfl (by rw [hF]; rfl) ?_
      exact hS5371_14
     ·refine ⟨_, rfl, ?_⟩
      refine Q6 (ids := [6892]) (es := List.map Qc [(Point.mk x38.At r49)]) 7052 el67 z81 rfl rfl rfl rfl rfl rfl (by rw [hF]; intro j hj; simp only [List.mem_cons, List.not_mem_nil, or_false] at hj; rcases hj with rfl <;> rfl) rfl rfl rfl rfl rfl rfl ?_
      refine Qe ?_
      refine Ql [0, 2, 3, 4, 22, 23, 24, 25, 26, 27, 28, 31, 33, 34, 35, 36, 37, 38, 39, 40, 41, 42, 43, 44, 45, 46, 47, 48, 49, 50, 51] [11, 412, 812, 892, 1452, 7052, 70005] rfl rfl rfl rfl (by rw [hF]; rfl) ?_
      exact hS5371_15
    refine Qy 7 [true, false, true, true, true, true, true, true, true, true, true, true, true, true, true, true, true, true, false, false, false, false, false, false] ⟨[(0, .cp [.sl 2 (List.map Qa p0.Pre), .sl 2 (List.map Qa p0.Post), .sl 2 (List.map Qd p0.Code), .sl 2 (List.map Qc p0.Points)]), (2, .ptr 11 0 0), (3, .ptr 1452 0 0), (4, .int .i64 s0.2), (22, .int .i64 s0.2), (23, .cp [.sl 2 (List.map Qa p0.Pre), .sl 2 (List.map Qa p0.Post), .sl 2 (List.map Qd p0.Code), .sl 2 (List.map Qc p0.Points)]), (24, .cp [.sl 2 (List.map Qa p0.Pre), .sl 2 (List.map Qa p0.Post), .sl 2 (List.map Qd p0.Code), .sl 2 (List.map Qc p0.Points)]), (25, .cp [.sl 2 (List.map Qc p0.Points)]), (26, .sl 2 (List.map Qc p0.Points)), (27, .int .i64 (p0.Points.length : Int)), (28, .bool (decide (s0.2 < (p0.Points.length : Int)))), (31, .ptr 1452 0 3), (33, .cp [.sl 2 (List.map Qa p0.Pre), .sl 2 (List.map Qa p0.Post), .sl 2 (List.map Qd p0.Code), .sl 2 (List.map Qc p0.Points)]), (34, .cp [.sl 2 (List.map Qa p0.Pre), .sl 2 (List.map Qa p0.Post), .sl 2 (List.map Qd p0.Code), .sl 2 (List.map Qc p0.Points)]), (35, .cp [.sl 2 (List.map Qc p0.Points)]), (36, .sl 2 (List.map Qc p0.Points)), (37, .int .i64 s0.2), (38, .cp [.int .i64 x38.At, .sl 2 (List.map Qa x38.Facts)]), (39, .cp [.int .i64 x38.At]), (40, .int .i64 x38.At), (41, .cp [.sl 2 (List.map Qa p0.Pre), .sl 2 (List.map Qa p0.Post), .sl 2 (List.map Qd p0.Code), .sl 2 (List.map Qc p0.Points)]), (42, .cp [.sl 2 (List.map Qa p0.Pre), .sl 2 (List.map Qa p0.Post), .sl 2 (List.map Qd p0.Code), .sl 2 (List.map Qc p0.Points)]), (43, .cp [.sl 2 (List.map Qc p0.Points)]), (44, .sl 2 (List.map Qc p0.Points)), (45, .int .i64 s0.2), (46, .cp [.int .i64 x38.At, .sl 2 (List.map Qa x38.Facts)]), (47, .cp [.sl 2 (List.map Qa x38.Facts)]), (48, .sl 2 (List.map Qa x38.Facts))], [(11, .box [.snil, .snil, .snil, .snil]), (412, .arr ⟨false, true⟩ 2 184 (List.map Qa j0.1)), (812, .arr ⟨false, true⟩ 2 184 (List.map Qa j0.2)), (892, .arr ⟨false, false⟩ 2 40 (List.map Qd (([] : List Instr) ++ p0.Code))), (1452, .box [.ow 412, .ow 812, .ow 892, .ow 70005]), (70005, .arr ⟨false, true⟩ 2 81 (List.map Qc s0.1))]⟩ ?_ (fun hS5371_17 => ?_)
    ·refine Qz [1, 18] (by kernel_rfl) rfl ?_
     refine ⟨?_, ?_⟩
     ·refine ⟨_, rfl, ?_⟩
      refine Qb rfl rfl rfl rfl (Qg ag67 rfl rfl) ?_
      refine Qe ?_
      refine Ql [0, 2, 3, 4, 22, 23, 24, 25, 26, 27, 28, 31, 32, 33, 34, 35, 36, 37, 38, 39, 40, 41, 42, 43, 44, 45, 46, 47, 48] [11, 412, 812, 892, 1452, 70005] rfl rfl rfl rfl (by rw [hF]; rfl) ?_
      exact hS5371_2
     ·refine ⟨_, rfl, ?_⟩
      refine Qt [(1000, 6892)] (ACall.F (F := F) (Qp x38.Facts r49 hr49)) Try.call104 rfl rfl rfl rfl rfl rfl rfl rfl rfl rfl rfl rfl rfl ?_
      refine Qe ?_
      refine Ql [0, 2, 3, 4, 22, 23, 24, 25, 26, 27, 28, 31, 33, 34, 35, 36, 37, 38, 39, 40, 41, 42, 43, 44, 45, 46, 47, 48, 49] [11, 412, 812, 892, 1452, 6892, 70005] rfl rfl rfl rfl (by rw [hF]; rfl) ?_
      exact hS5371_16
    refine Qy 10 [true, false, true, true, true, true, true, true, true, true, true, true, true, true, true, false, false, false, false, false, false, false, false, false] ⟨[(0, .cp [.sl 2 (List.map Qa p0.Pre), .sl 2 (List.map Qa p0.Post), .sl 2 (List.map Qd p0.Code), .sl 2 (List.map Qc p0.Points)]), (2, .ptr 11 0 0), (3, .ptr 1452 0 0), (4, .int .i64 s0.2), (22, .int .i64 s0.2), (23, .cp [.sl 2 (List.map Qa p0.Pre), .sl 2 (List.map Qa p0.Post), .sl 2 (List.map Qd p0.Code), .sl 2 (List.map Qc p0.Points)]), (24, .cp [.sl 2 (List.map Qa p0.Pre), .sl 2 (List.map Qa p0.Post), .sl 2 (List.map Qd p0.Code), .sl 2 (List.map Qc p0.Points)]), (25, .cp [.sl 2 (List.map Qc p0.Points)]), (26, .sl 2 (List.map Qc p0.Points)), (27, .int .i64 (p0.Points.length : Int)), (28, .bool (decide (s0.2 < (p0.Points.length : Int)))), (31, .ptr 1452 0 3), (33, .cp [.sl 2 (List.map Qa p0.Pre), .sl 2 (List.map Qa p0.Post), .sl 2 (List.map Qd p0.Code), .sl 2 (List.map Qc p0.Points)]), (34, .cp [.sl 2 (List.map Qa p0.Pre), .sl 2 (List.map Qa p0.Post), .sl 2 (List.map Qd p0.Code), .sl 2 (List.map Qc p0.Points)]), (35, .cp [.sl 2 (List.map Qc p0.Points)]), (36, .sl 2 (List.map Qc p0.Points)), (37, .int .i64 s0.2), (38, .cp [.int .i64 x38.At, .sl 2 (List.map Qa x38.Facts)]), (39, .cp [.int .i64 x38.At]), (40, .int .i64 x38.At), (41, .cp [.sl 2 (List.map Qa p0.Pre), .sl 2 (List.map Qa p0.Post), .sl 2 (List.map Qd p0.Code), .sl 2 (List.map Qc p0.Points)]), (42, .cp [.sl 2 (List.map Qa p0.Pre), .sl 2 (List.map Qa p0.Post), .sl 2 (List.map Qd p0.Code), .sl 2 (List.map Qc p0.Points)]), (43, .cp [.sl 2 (List.map Qc p0.Points)]), (44, .sl 2 (List.map Qc p0.Points)), (45, .int .i64 s0.2)], [(11, .box [.snil, .snil, .snil, .snil]), (412, .arr ⟨false, true⟩ 2 184 (List.map Qa j0.1)), (812, .arr ⟨false, true⟩ 2 184 (List.map Qa j0.2)), (892, .arr ⟨false, false⟩ 2 40 (List.map Qd (([] : List Instr) ++ p0.Code))), (1452, .box [.ow 412, .ow 812, .ow 892, .ow 70005]), (70005, .arr ⟨false, true⟩ 2 81 (List.map Qc s0.1))]⟩ ?_ (fun hS5371_18 => ?_)
    ·refine Qn 15 (by kernel_rfl) rfl rfl rfl rfl rfl (QU el67 rfl rfl hx38 rfl) ?_
     refine Qn 16 (by kernel_rfl) rfl rfl rfl rfl rfl (Qj fa81_1 rfl rfl) ?_
     refine Qz [1, 17] (by kernel_rfl) rfl ?_
     refine ⟨?_, ?_⟩
     ·refine ⟨_, rfl, ?_⟩
      refine Qb rfl rfl rfl rfl (Qg ag67 rfl rfl) ?_
      refine Qe ?_
      refine Ql [0, 2, 3, 4, 22, 23, 24, 25, 26, 27, 28, 31, 32, 33, 34, 35, 36, 37, 38, 39, 40, 41, 42, 43, 44, 45, 46, 47] [11, 412, 812, 892, 1452, 70005] rfl rfl rfl rfl (by rw [hF]; rfl) ?_
      exact hS5371_1
     ·refine ⟨_, rfl, ?_⟩
      refine Qb rfl rfl rfl rfl (Qg ag66 rfl rfl) ?_
      refine Qe ?_
      refine Ql [0, 2, 3, 4, 22, 23, 24, 25, 26, 27, 28, 31, 33, 34, 35, 36, 37, 38, 39, 40, 41, 42, 43, 44, 45, 46, 47, 48] [11, 412, 812, 892, 1452, 70005] rfl rfl rfl rfl (by rw [hF]; rfl) ?_
      exact hS5371_17
    refine Qy 11 [true, false, true, true, true, true, true, true, true, true, true, true, true, false, true, false, false, false, false, false, false, false, false, false] ⟨[(0, .cp [.sl 2 (List.map Qa p0.Pre), .sl 2 (List.map Qa p0.Post), .sl 2 (List.map Qd p0.Code), .sl 2 (List.map Qc p0.Points)]), (2, .ptr 11 0 0), (3, .ptr 1452 0 0), (4, .int .i64 s0.2), (22, .int .i64 s0.2), (23, .cp [.sl 2 (List.map Qa p0.Pre), .sl 2 (List.map Qa p0.Post), .sl 2 (List.map Qd p0.Code), .sl 2 (List.map Qc p0.Points)]), (24, .cp [.sl 2 (List.map Qa p0.Pre), .sl 2 (List.map Qa p0.Post), .sl 2 (List.map Qd p0.Code), .sl 2 (List.map Qc p0.Points)]), (25, .cp [.sl 2 (List.map Qc p0.Points)]), (26, .sl 2 (List.map Qc p0.Points)), (27, .int .i64 (p0.Points.length : Int)), (28, .bool (decide (s0.2 < (p0.Points.length : Int)))), (31, .ptr 1452 0 3), (33, .cp [.sl 2 (List.map Qa p0.Pre), .sl 2 (List.map Qa p0.Post), .sl 2 (List.map Qd p0.Code), .sl 2 (List.map Qc p0.Points)]), (34, .cp [.sl 2 (List.map Qa p0.Pre), .sl 2 (List.map Qa p0.Post), .sl 2 (List.map Qd p0.Code), .sl 2 (List.map Qc p0.Points)]), (35, .cp [.sl 2 (List.map Qc p0.Points)]), (36, .sl 2 (List.map Qc p0.Points)), (37, .int .i64 s0.2), (38, .cp [.int .i64 x38.At, .sl 2 (List.map Qa x38.Facts)]), (39, .cp [.int .i64 x38.At]), (40, .int .i64 x38.At), (41, .cp [.sl 2 (List.map Qa p0.Pre), .sl 2 (List.map Qa p0.Post), .sl 2 (List.map Qd p0.Code), .sl 2 (List.map Qc p0.Points)]), (42, .cp [.sl 2 (List.map Qa p0.Pre), .sl 2 (List.map Qa p0.Post), .sl 2 (List.map Qd p0.Code), .sl 2 (List.map Qc p0.Points)]), (43, .cp [.sl 2 (List.map Qc p0.Points)]), (45, .int .i64 s0.2)], [(11, .box [.snil, .snil, .snil, .snil]), (412, .arr ⟨false, true⟩ 2 184 (List.map Qa j0.1)), (812, .arr ⟨false, true⟩ 2 184 (List.map Qa j0.2)), (892, .arr ⟨false, false⟩ 2 40 (List.map Qd (([] : List Instr) ++ p0.Code))), (1452, .box [.ow 412, .ow 812, .ow 892, .ow 70005]), (70005, .arr ⟨false, true⟩ 2 81 (List.map Qc s0.1))]⟩ ?_ (fun hS5371_19 => ?_)
    ·refine Qz [1, 13] (by kernel_rfl) rfl ?_
     refine ⟨?_, ?_⟩
     ·refine ⟨_, rfl, ?_⟩
      refine Qb rfl rfl rfl rfl (Qg ag67 rfl rfl) ?_
      refine Qe ?_
      refine Ql [0, 2, 3, 4, 22, 23, 24, 25, 26, 27, 28, 31, 32, 33, 34, 35, 36, 37, 38, 39, 40, 41, 42, 43, 45] [11, 412, 812, 892, 1452, 70005] rfl rfl rfl rfl (by rw [hF]; rfl) ?_
      exact hS5371_0
     ·refine ⟨_, rfl, ?_⟩
      refine Qb rfl rfl rfl rfl (Qg ag67 rfl rfl) ?_
      refine Qe ?_
      refine Ql [0, 2, 3, 4, 22, 23, 24, 25, 26, 27, 28, 31, 33, 34, 35, 36, 37, 38, 39, 40, 41, 42, 43, 44, 45] [11, 412, 812, 892, 1452, 70005] rfl rfl rfl rfl (by rw [hF]; rfl) ?_
      exact hS5371_18
    refine Qy 8 [true, true, true, true, true, true, true, true, true, false, true, true, true, true, true, true, true, false, false, false, false, false, false, false] ⟨[(0, .cp [.sl 2 (List.map Qa p0.Pre), .sl 2 (List.map Qa p0.Post), .sl 2 (List.map Qd p0.Code), .sl 2 (List.map Qc p0.Points)]), (2, .ptr 11 0 0), (3, .ptr 1452 0 0), (4, .int .i64 s0.2), (22, .int .i64 s0.2), (23, .cp [.sl 2 (List.map Qa p0.Pre), .sl 2 (List.map Qa p0.Post), .sl 2 (List.map Qd p0.Code), .sl 2 (List.map Qc p0.Points)]), (24, .cp [.sl 2 (List.map Qa p0.Pre), .sl 2 (List.map Qa p0.Post), .sl 2 (List.map Qd p0.Code), .sl 2 (List.map Qc p0.Points)]), (25, .cp [.sl 2 (List.map Qc p0.Points)]), (26, .sl 2 (List.map Qc p0.Points)), (27, .int .i64 (p0.Points.length : Int)), (28, .bool (decide (s0.2 < (p0.Points.length : Int)))), (31, .ptr 1452 0 3), (32, .ow 70005), (33, .cp [.sl 2 (List.map Qa p0.Pre), .sl 2 (List.map Qa p0.Post), .sl 2 (List.map Qd p0.Code), .sl 2 (List.map Qc p0.Points)]), (34, .cp [.sl 2 (List.map Qa p0.Pre), .sl 2 (List.map Qa p0.Post), .sl 2 (List.map Qd p0.Code), .sl 2 (List.map Qc p0.Points)]), (35, .cp [.sl 2 (List.map Qc p0.Points)]), (36, .sl 2 (List.map Qc p0.Points)), (37, .int .i64 s0.2), (38, .cp [.int .i64 x38.At, .sl 2 (List.map Qa x38.Facts)]), (39, .cp [.int .i64 x38.At]), (41, .cp [.sl 2 (List.map Qa p0.Pre), .sl 2 (List.map Qa p0.Post), .sl 2 (List.map Qd p0.Code), .sl 2 (List.map Qc p0.Points)]), (42, .cp [.sl 2 (List.map Qa p0.Pre), .sl 2 (List.map Qa p0.Post), .sl 2 (List.map Qd p0.Code), .sl 2 (List.map Qc p0.Points)]), (43, .cp [.sl 2 (List.map Qc p0.Points)]), (44, .sl 2 (List.map Qc p0.Points)), (45, .int .i64 s0.2), (46, .cp [.int .i64 x38.At, .sl 2 (List.map Qa x38.Facts)]), (47, .cp [.sl 2 (List.map Qa x38.Facts)])], [(11, .box [.snil, .snil, .snil, .snil]), (412, .arr ⟨false, true⟩ 2 184 (List.map Qa j0.1)), (812, .arr ⟨false, true⟩ 2 184 (List.map Qa j0.2)), (892, .arr ⟨false, false⟩ 2 40 (List.map Qd (([] : List Instr) ++ p0.Code))), (1452, .box [.ow 412, .ow 812, .ow 892, .ow 70005]), (70005, .arr ⟨false, true⟩ 2 81 (List.map Qc s0.1))]⟩ ?_ (fun hS5371_20 => ?_)
    ·refine Qz [9, 17] (by kernel_rfl) rfl ?_
     refine ⟨?_, ?_⟩
     ·refine ⟨_, rfl, ?_⟩
      refine Qb rfl rfl rfl rfl (Qg ag2 rfl rfl) ?_
      refine Qe ?_
      refine Ql [0, 2, 3, 4, 22, 23, 24, 25, 26, 27, 28, 31, 32, 33, 34, 35, 36, 37, 38, 39, 40, 41, 42, 43, 44, 45, 46, 47] [11, 412, 812, 892, 1452, 70005] rfl rfl rfl rfl (by rw [hF]; rfl) ?_
      exact hS5371_1
     ·refine ⟨_, rfl, ?_⟩
      refine Qb rfl rfl rfl rfl (Qg ag66 rfl rfl) ?_
      refine Qe ?_
      refine Ql [0, 2, 3, 4, 22, 23, 24, 25, 26, 27, 28, 31, 32, 33, 34, 35, 36, 37, 38, 39, 41, 42, 43, 44, 45, 46, 47, 48] [11, 412, 812, 892, 1452, 70005] rfl rfl rfl rfl (by rw [hF]; rfl) ?_
      exact hS5371_4
    refine Qy 8 [true, false, true, true, true, true, true, true, true, true, true, true, true, true, true, true, true, false, false, false, false, false, false, false] ⟨[(0, .cp [.sl 2 (List.map Qa p0.Pre), .sl 2 (List.map Qa p0.Post), .sl 2 (List.map Qd p0.Code), .sl 2 (List.map Qc p0.Points)]), (2, .ptr 11 0 0), (3, .ptr 1452 0 0), (4, .int .i64 s0.2), (22, .int .i64 s0.2), (23, .cp [.sl 2 (List.map Qa p0.Pre), .sl 2 (List.map Qa p0.Post), .sl 2 (List.map Qd p0.Code), .sl 2 (List.map Qc p0.Points)]), (24, .cp [.sl 2 (List.map Qa p0.Pre), .sl 2 (List.map Qa p0.Post), .sl 2 (List.map Qd p0.Code), .sl 2 (List.map Qc p0.Points)]), (25, .cp [.sl 2 (List.map Qc p0.Points)]), (26, .sl 2 (List.map Qc p0.Points)), (27, .int .i64 (p0.Points.length : Int)), (28, .bool (decide (s0.2 < (p0.Points.length : Int)))), (31, .ptr 1452 0 3), (33, .cp [.sl 2 (List.map Qa p0.Pre), .sl 2 (List.map Qa p0.Post), .sl 2 (List.map Qd p0.Code), .sl 2 (List.map Qc p0.Points)]), (34, .cp [.sl 2 (List.map Qa p0.Pre), .sl 2 (List.map Qa p0.Post), .sl 2 (List.map Qd p0.Code), .sl 2 (List.map Qc p0.Points)]), (35, .cp [.sl 2 (List.map Qc p0.Points)]), (36, .sl 2 (List.map Qc p0.Points)), (37, .int .i64 s0.2), (38, .cp [.int .i64 x38.At, .sl 2 (List.map Qa x38.Facts)]), (39, .cp [.int .i64 x38.At]), (40, .int .i64 x38.At), (41, .cp [.sl 2 (List.map Qa p0.Pre), .sl 2 (List.map Qa p0.Post), .sl 2 (List.map Qd p0.Code), .sl 2 (List.map Qc p0.Points)]), (42, .cp [.sl 2 (List.map Qa p0.Pre), .sl 2 (List.map Qa p0.Post), .sl 2 (List.map Qd p0.Code), .sl 2 (List.map Qc p0.Points)]), (43, .cp [.sl 2 (List.map Qc p0.Points)]), (44, .sl 2 (List.map Qc p0.Points)), (45, .int .i64 s0.2), (46, .cp [.int .i64 x38.At, .sl 2 (List.map Qa x38.Facts)]), (47, .cp [.sl 2 (List.map Qa x38.Facts)])], [(11, .box [.snil, .snil, .snil, .snil]), (412, .arr ⟨false, true⟩ 2 184 (List.map Qa j0.1)), (812, .arr ⟨false, true⟩ 2 184 (List.map Qa j0.2)), (892, .arr ⟨false, false⟩ 2 40 (List.map Qd (([] : List Instr) ++ p0.Code))), (1452, .box [.ow 412, .ow 812, .ow 892, .ow 70005]), (70005, .arr ⟨false, true⟩ 2 81 (List.map Qc s0.1))]⟩ ?_ (fun hS5371_21 => ?_)
    ·refine Qz [1, 17] (by kernel_rfl) rfl ?_
     refine ⟨?_, ?_⟩
     ·refine ⟨_, rfl, ?_⟩
      refine Qb rfl rfl rfl rfl (Qg ag67 rfl rfl) ?_
      refine Qe ?_
      refine Ql [0, 2, 3, 4, 22, 23, 24, 25, 26, 27, 28, 31, 32, 33, 34, 35, 36, 37, 38, 39, 40, 41, 42, 43, 44, 45, 46, 47] [11, 412, 812, 892, 1452, 70005] rfl rfl rfl rfl (by rw [hF]; rfl) ?_
      exact hS5371_1
     ·refine ⟨_, rfl, ?_⟩
      refine Qb rfl rfl rfl rfl (Qg ag66 rfl rfl) ?_
      refine Qe ?_
      refine Ql [0, 2, 3, 4, 22, 23, 24, 25, 26, 27, 28, 31, 33, 34, 35, 36, 37, 38, 39, 40, 41, 42, 43, 44, 45, 46, 47, 48] [11, 412, 812, 892, 1452, 70005] rfl rfl rfl rfl (by rw [hF]; rfl) ?_
      exact hS5371_17
    refine Qy 7 [true, false, true, true, true, true, true, true, true, false, true, true, true, true, true, true, true, true, true, false, false, false, false, false] ⟨[(0, .cp [.sl 2 (List.map Qa p0.Pre), .sl 2 (List.map Qa p0.Post), .sl 2 (List.map Qd p0.Code), .sl 2 (List.map Qc p0.Points)]), (2, .ptr 11 0 0), (3, .ptr 1452 0 0), (4, .int .i64 s0.2), (22, .int .i64 s0.2), (23, .cp [.sl 2 (List.map Qa p0.Pre), .sl 2 (List.map Qa p0.Post), .sl 2 (List.map Qd p0.Code), .sl 2 (List.map Qc p0.Points)]), (24, .cp [.sl 2 (List.map Qa p0.Pre), .sl 2 (List.map Qa p0.Post), .sl 2 (List.map Qd p0.Code), .sl 2 (List.map Qc p0.Points)]), (25, .cp [.sl 2 (List.map Qc p0.Points)]), (26, .sl 2 (List.map Qc p0.Points)), (27, .int .i64 (p0.Points.length : Int)), (28, .bool (decide (s0.2 < (p0.Points.length : Int)))), (31, .ptr 1452 0 3), (33, .cp [.sl 2 (List.map Qa p0.Pre), .sl 2 (List.map Qa p0.Post), .sl 2 (List.map Qd p0.Code), .sl 2 (List.map Qc p0.Points)]), (34, .cp [.sl 2 (List.map Qa p0.Pre), .sl 2 (List.map Qa p0.Post), .sl 2 (List.map Qd p0.Code), .sl 2 (List.map Qc p0.Points)]), (35, .cp [.sl 2 (List.map Qc p0.Points)]), (36, .sl 2 (List.map Qc p0.Points)), (37, .int .i64 s0.2), (38, .cp [.int .i64 x38.At, .sl 2 (List.map Qa x38.Facts)]), (39, .cp [.int .i64 x38.At]), (41, .cp [.sl 2 (List.map Qa p0.Pre), .sl 2 (List.map Qa p0.Post), .sl 2 (List.map Qd p0.Code), .sl 2 (List.map Qc p0.Points)]), (42, .cp [.sl 2 (List.map Qa p0.Pre), .sl 2 (List.map Qa p0.Post), .sl 2 (List.map Qd p0.Code), .sl 2 (List.map Qc p0.Points)]), (43, .cp [.sl 2 (List.map Qc p0.Points)]), (44, .sl 2 (List.map Qc p0.Points)), (45, .int .i64 s0.2), (46, .cp [.int .i64 x38.At, .sl 2 (List.map Qa x38.Facts)]), (47, .cp [.sl 2 (List.map Qa x38.Facts)]), (48, .sl 2 (List.map Qa x38.Facts)), (49, .ow 6892)], [(11, .box [.snil, .snil, .snil, .snil]), (412, .arr ⟨false, true⟩ 2 184 (List.map Qa j0.1)), (812, .arr ⟨false, true⟩ 2 184 (List.map Qa j0.2)), (892, .arr ⟨false, false⟩ 2 40 (List.map Qd (([] : List Instr) ++ p0.Code))), (1452, .box [.ow 412, .ow 812, .ow 892, .ow 70005]), (6892, .arr ⟨false, true⟩ 2 184 (List.map Qa r49)), (70005, .arr ⟨false, true⟩ 2 81 (List.map Qc s0.1))]⟩ ?_ (fun hS5371_22 => ?_)
    ·refine Qz [1, 9] (by kernel_rfl) rfl ?_
     refine ⟨?_, ?_⟩
     ·refine ⟨_, rfl, ?_⟩
      refine Qb rfl rfl rfl rfl (Qg ag67 rfl rfl) ?_
      refine Qe ?_
      refine Ql [0, 2, 3, 4, 22, 23, 24, 25, 26, 27, 28, 31, 32, 33, 34, 35, 36, 37, 38, 39, 41, 42, 43, 44, 45, 46, 47, 48, 49] [11, 412, 812, 892, 1452, 6892, 70005] rfl rfl rfl rfl (by rw [hF]; rfl) ?_
      exact hS5371_3
     ·refine ⟨_, rfl, ?_⟩
      refine Qb rfl rfl rfl rfl (Qg ag2 rfl rfl) ?_
      refine Qe ?_
      refine Ql [0, 2, 3, 4, 22, 23, 24, 25, 26, 27, 28, 31, 33, 34, 35, 36, 37, 38, 39, 40, 41, 42, 43, 44, 45, 46, 47, 48, 49] [11, 412, 812, 892, 1452, 6892, 70005] rfl rfl rfl rfl (by rw [hF]; rfl) ?_
      exact hS5371_16
    refine Qy 8 [true, false, true, true, true, true, true, true, true, false, true, true, true, true, true, true, true, true, false, false, false, false, false, false] ⟨[(0, .cp [.sl 2 (List.map Qa p0.Pre), .sl 2 (List.map Qa p0.Post), .sl 2 (List.map Qd p0.Code), .sl 2 (List.map Qc p0.Points)]), (2, .ptr 11 0 0), (3, .ptr 1452 0 0), (4, .int .i64 s0.2), (22, .int .i64 s0.2), (23, .cp [.sl 2 (List.map Qa p0.Pre), .sl 2 (List.map Qa p0.Post), .sl 2 (List.map Qd p0.Code), .sl 2 (List.map Qc p0.Points)]), (24, .cp [.sl 2 (List.map Qa p0.Pre), .sl 2 (List.map Qa p0.Post), .sl 2 (List.map Qd p0.Code), .sl 2 (List.map Qc p0.Points)]), (25, .cp [.sl 2 (List.map Qc p0.Points)]), (26, .sl 2 (List.map Qc p0.Points)), (27, .int .i64 (p0.Points.length : Int)), (28, .bool (decide (s0.2 < (p0.Points.length : Int)))), (31, .ptr 1452 0 3), (33, .cp [.sl 2 (List.map Qa p0.Pre), .sl 2 (List.map Qa p0.Post), .sl 2 (List.map Qd p0.Code), .sl 2 (List.map Qc p0.Points)]), (34, .cp [.sl 2 (List.map Qa p0.Pre), .sl 2 (List.map Qa p0.Post), .sl 2 (List.map Qd p0.Code), .sl 2 (List.map Qc p0.Points)]), (35, .cp [.sl 2 (List.map Qc p0.Points)]), (36, .sl 2 (List.map Qc p0.Points)), (37, .int .i64 s0.2), (38, .cp [.int .i64 x38.At, .sl 2 (List.map Qa x38.Facts)]), (39, .cp [.int .i64 x38.At]), (41, .cp [.sl 2 (List.map Qa p0.Pre), .sl 2 (List.map Qa p0.Post), .sl 2 (List.map Qd p0.Code), .sl 2 (List.map Qc p0.Points)]), (42, .cp [.sl 2 (List.map Qa p0.Pre), .sl 2 (List.map Qa p0.Post), .sl 2 (List.map Qd p0.Code), .sl 2 (List.map Qc p0.Points)]), (43, .cp [.sl 2 (List.map Qc p0.Points)]), (44, .sl 2 (List.map Qc p0.Points)), (45, .int .i64 s0.2), (46, .cp [.int .i64 x38.At, .sl 2 (List.map Qa x38.Facts)]), (47, .cp [.sl 2 (List.map Qa x38.Facts)]), (48, .sl 2 (List.map Qa x38.Facts))], [(11, .box [.snil, .snil, .snil, .snil]), (412, .arr ⟨false, true⟩ 2 184 (List.map Qa j0.1)), (812, .arr ⟨false, true⟩ 2 184 (List.map Qa j0.2)), (892, .arr ⟨false, false⟩ 2 40 (List.map Qd (([] : List Instr) ++ p0.Code))), (1452, .box [.ow 412, .ow 812, .ow 892, .ow 70005]), (70005, .arr ⟨false, true⟩ 2 81 (List.map Qc s0.1))]⟩ ?_ (fun hS5371_23 => ?_)
    ·refine Qz [1, 9, 18] (by kernel_rfl) rfl ?_
     refine ⟨?_, ?_, ?_⟩
     ·refine ⟨_, rfl, ?_⟩
      refine Qb rfl rfl rfl rfl (Qg ag67 rfl rfl) ?_
      refine Qe ?_
      refine Ql [0, 2, 3, 4, 22, 23, 24, 25, 26, 27, 28, 31, 32, 33, 34, 35, 36, 37, 38, 39, 41, 42, 43, 44, 45, 46, 47, 48] [11, 412, 812, 892, 1452, 70005] rfl rfl rfl rfl (by rw [hF]; rfl) ?_
      exact hS5371_4
     ·refine ⟨_, rfl, ?_⟩
      refine Qb rfl rfl rfl rfl (Qg ag2 rfl rfl) ?_
      refine Qe ?_
      refine Ql [0, 2, 3, 4, 22, 23, 24, 25, 26, 27, 28, 31, 33, 34, 35, 36, 37, 38, 39, 40, 41, 42, 43, 44, 45, 46, 47, 48] [11, 412, 812, 892, 1452, 70005] rfl rfl rfl rfl (by rw [hF]; rfl) ?_
      exact hS5371_17
     ·refine ⟨_, rfl, ?_⟩
      refine Qt [(1000, 6892)] (ACall.F (F := F) (Qp x38.Facts r49 hr49)) Try.call104 rfl rfl rfl rfl rfl rfl rfl rfl rfl rfl rfl rfl rfl ?_
      refine Qe ?_
      refine Ql [0, 2, 3, 4, 22, 23, 24, 25, 26, 27, 28, 31, 33, 34, 35, 36, 37, 38, 39, 41, 42, 43, 44, 45, 46, 47, 48, 49] [11, 412, 812, 892, 1452, 6892, 70005] rfl rfl rfl rfl (by rw [hF]; rfl) ?_
      exact hS5371_22
    refine Qy 11 [true, false, true, true, true, true, true, true, true, false, true, true, true, true, true, false, false, false, false, false, false, false, false, false] ⟨[(0, .cp [.sl 2 (List.map Qa p0.Pre), .sl 2 (List.map Qa p0.Post), .sl 2 (List.map Qd p0.Code), .sl 2 (List.map Qc p0.Points)]), (2, .ptr 11 0 0), (3, .ptr 1452 0 0), (4, .int .i64 s0.2), (22, .int .i64 s0.2), (23, .cp [.sl 2 (List.map Qa p0.Pre), .sl 2 (List.map Qa p0.Post), .sl 2 (List.map Qd p0.Code), .sl 2 (List.map Qc p0.Points)]), (24, .cp [.sl 2 (List.map Qa p0.Pre), .sl 2 (List.map Qa p0.Post), .sl 2 (List.map Qd p0.Code), .sl 2 (List.map Qc p0.Points)]), (25, .cp [.sl 2 (List.map Qc p0.Points)]), (26, .sl 2 (List.map Qc p0.Points)), (27, .int .i64 (p0.Points.length : Int)), (28, .bool (decide (s0.2 < (p0.Points.length : Int)))), (31, .ptr 1452 0 3), (33, .cp [.sl 2 (List.map Qa p0.Pre), .sl 2 (List.map Qa p0.Post), .sl 2 (List.map Qd p0.Code), .sl 2 (List.map Qc p0.Points)]), (34, .cp [.sl 2 (List.map Qa p0.Pre), .sl 2 (List.map Qa p0.Post), .sl 2 (List.map Qd p0.Code), .sl 2 (List.map Qc p0.Points)]), (35, .cp [.sl 2 (List.map Qc p0.Points)]), (36, .sl 2 (List.map Qc p0.Points)), (37, .int .i64 s0.2), (38, .cp [.int .i64 x38.At, .sl 2 (List.map Qa x38.Facts)]), (39, .cp [.int .i64 x38.At]), (41, .cp [.sl 2 (List.map Qa p0.Pre), .sl 2 (List.map Qa p0.Post), .sl 2 (List.map Qd p0.Code), .sl 2 (List.map Qc p0.Points)]), (42, .cp [.sl 2 (List.map Qa p0.Pre), .sl 2 (List.map Qa p0.Post), .sl 2 (List.map Qd p0.Code), .sl 2 (List.map Qc p0.Points)]), (43, .cp [.sl 2 (List.map Qc p0.Points)]), (44, .sl 2 (List.map Qc p0.Points)), (45, .int .i64 s0.2)], [(11, .box [.snil, .snil, .snil, .snil]), (412, .arr ⟨false, true⟩ 2 184 (List.map Qa j0.1)), (812, .arr ⟨false, true⟩ 2 184 (List.map Qa j0.2)), (892, .arr ⟨false, false⟩ 2 40 (List.map Qd (([] : List Instr) ++ p0.Code))), (1452, .box [.ow 412, .ow 812, .ow 892, .ow 70005]), (70005, .arr ⟨false, true⟩ 2 81 (List.map Qc s0.1))]⟩ ?_ (fun hS5371_24 => ?_)
    ·refine Qn 15 (by kernel_rfl) rfl rfl rfl rfl rfl (QU el67 rfl rfl hx38 rfl) ?_
     refine Qn 16 (by kernel_rfl) rfl rfl rfl rfl rfl (Qj fa81_1 rfl rfl) ?_
     refine Qz [1, 9, 17] (by kernel_rfl) rfl ?_
     refine ⟨?_, ?_, ?_⟩
     ·refine ⟨_, rfl, ?_⟩
      refine Qb rfl rfl rfl rfl (Qg ag67 rfl rfl) ?_
      refine Qe ?_
      refine Ql [0, 2, 3, 4, 22, 23, 24, 25, 26, 27, 28, 31, 32, 33, 34, 35, 36, 37, 38, 39, 41, 42, 43, 44, 45, 46, 47] [11, 412, 812, 892, 1452, 70005] rfl rfl rfl rfl (by rw [hF]; rfl) ?_
      exact hS5371_20
     ·refine ⟨_, rfl, ?_⟩
      refine Qb rfl rfl rfl rfl (Qg ag2 rfl rfl) ?_
      refine Qe ?_
      refine Ql [0, 2, 3, 4, 22, 23, 24, 25, 26, 27, 28, 31, 33, 34, 35, 36, 37, 38, 39, 40, 41, 42, 43, 44, 45, 46, 47] [11, 412, 812, 892, 1452, 70005] rfl rfl rfl rfl (by rw [hF]; rfl) ?_
      exact hS5371_21
     ·refine ⟨_, rfl, ?_⟩
      refine Qb rfl rfl rfl rfl (Qg ag66 rfl rfl) ?_
      refine Qe ?_
      refine Ql [0, 2, 3, 4, 22, 23, 24, 25, 26, 27, 28, 31, 33, 34, 35, 36, 37, 38, 39, 41, 42, 43, 44, 45, 46, 47, 48] [11, 412, 812, 892, 1452, 70005] rfl rfl rfl rfl (by rw [hF]; rfl) ?_
      exact hS5371_23
    refine Qy 14 [true, false, true, true, true, true, true, false, false, false, true, true, true, false, true, false, false, false, false, false, false, false, false, false] ⟨[(0, .cp [.sl 2 (List.map Qa p0.Pre), .sl 2 (List.map Qa p0.Post), .sl 2 (List.map Qd p0.Code), .sl 2 (List.map Qc p0.Points)]), (2, .ptr 11 0 0), (3, .ptr 1452 0 0), (4, .int .i64 s0.2), (22, .int .i64 s0.2), (23, .cp [.sl 2 (List.map Qa p0.Pre), .sl 2 (List.map Qa p0.Post), .sl 2 (List.map Qd p0.Code), .sl 2 (List.map Qc p0.Points)]), (24, .cp [.sl 2 (List.map Qa p0.Pre), .sl 2 (List.map Qa p0.Post), .sl 2 (List.map Qd p0.Code), .sl 2 (List.map Qc p0.Points)]), (25, .cp [.sl 2 (List.map Qc p0.Points)]), (26, .sl 2 (List.map Qc p0.Points)), (27, .int .i64 (p0.Points.length : Int)), (28, .bool (decide (s0.2 < (p0.Points.length : Int)))), (31, .ptr 1452 0 3), (33, .cp [.sl 2 (List.map Qa p0.Pre), .sl 2 (List.map Qa p0.Post), .sl 2 (List.map Qd p0.Code), .sl 2 (List.map Qc p0.Points)]), (34, .cp [.sl 2 (List.map Qa p0.Pre), .sl 2 (List.map Qa p0.Post), .sl 2 (List.map Qd p0.Code), .sl 2 (List.map Qc p0.Points)]), (35, .cp [.sl 2 (List.map Qc p0.Points)]), (36, .sl 2 (List.map Qc p0.Points)), (37, .int .i64 s0.2), (41, .cp [.sl 2 (List.map Qa p0.Pre), .sl 2 (List.map Qa p0.Post), .sl 2 (List.map Qd p0.Code), .sl 2 (List.map Qc p0.Points)]), (42, .cp [.sl 2 (List.map Qa p0.Pre), .sl 2 (List.map Qa p0.Post), .sl 2 (List.map Qd p0.Code), .sl 2 (List.map Qc p0.Points)]), (43, .cp [.sl 2 (List.map Qc p0.Points)]), (45, .int .i64 s0.2)], [(11, .box [.snil, .snil, .snil, .snil]), (412, .arr ⟨false, true⟩ 2 184 (List.map Qa j0.1)), (812, .arr ⟨false, true⟩ 2 184 (List.map Qa j0.2)), (892, .arr ⟨false, false⟩ 2 40 (List.map Qd (([] : List Instr) ++ p0.Code))), (1452, .box [.ow 412, .ow 812, .ow 892, .ow 70005]), (70005, .arr ⟨false, true⟩ 2 81 (List.map Qc s0.1))]⟩ ?_ (fun hS5371_25 => ?_)
    ·refine Qn 7 (by kernel_rfl) rfl rfl rfl rfl rfl (QU el67 rfl rfl hx38 rfl) ?_
     refine Qn 8 (by kernel_rfl) rfl rfl rfl rfl rfl (QY (n := 1) fa81_0 rfl rfl rfl) ?_
     refine Qz [1, 9, 13] (by kernel_rfl) rfl ?_
     refine ⟨?_, ?_, ?_⟩
     ·refine ⟨_, rfl, ?_⟩
      refine Qb rfl rfl rfl rfl (Qg ag67 rfl rfl) ?_
      refine Qe ?_
      refine Ql [0, 2, 3, 4, 22, 23, 24, 25, 26, 27, 28, 31, 32, 33, 34, 35, 36, 37, 38, 39, 41, 42, 43, 45] [11, 412, 812, 892, 1452, 70005] rfl rfl rfl rfl (by rw [hF]; rfl) ?_
      exact hS5371_13
     ·refine ⟨_, rfl, ?_⟩
      refine Qb rfl rfl rfl rfl (Qg ag2 rfl rfl) ?_
      refine Qe ?_
      refine Ql [0, 2, 3, 4, 22, 23, 24, 25, 26, 27, 28, 31, 33, 34, 35, 36, 37, 38, 39, 40, 41, 42, 43, 45] [11, 412, 812, 892, 1452, 70005] rfl rfl rfl rfl (by rw [hF]; rfl) ?_
      exact hS5371_19
     ·refine ⟨_, rfl, ?_⟩
      refine Qb rfl rfl rfl rfl (Qg ag67 rfl rfl) ?_
      refine Qe ?_
      refine Ql [0, 2, 3, 4, 22, 23, 24, 25, 26, 27, 28, 31, 33, 34, 35, 36, 37, 38, 39, 41, 42, 43, 44, 45] [11, 412, 812, 892, 1452, 70005] rfl rfl rfl rfl (by rw [hF]; rfl) ?_
      exact hS5371_24
    refine Qy 11 [true, true, true, true, true, false, true, false, false, false, true, true, true, true, true, true, true, false, false, false, false, false, false, false] ⟨[(0, .cp [.sl 2 (List.map Qa p0.Pre), .sl 2 (List.map Qa p0.Post), .sl 2 (List.map Qd p0.Code), .sl 2 (List.map Qc p0.Points)]), (2, .ptr 11 0 0), (3, .ptr 1452 0 0), (4, .int .i64 s0.2), (22, .int .i64 s0.2), (23, .cp [.sl 2 (List.map Qa p0.Pre), .sl 2 (List.map Qa p0.Post), .sl 2 (List.map Qd p0.Code), .sl 2 (List.map Qc p0.Points)]), (24, .cp [.sl 2 (List.map Qa p0.Pre), .sl 2 (List.map Qa p0.Post), .sl 2 (List.map Qd p0.Code), .sl 2 (List.map Qc p0.Points)]), (25, .cp [.sl 2 (List.map Qc p0.Points)]), (26, .sl 2 (List.map Qc p0.Points)), (27, .int .i64 (p0.Points.length : Int)), (28, .bool (decide (s0.2 < (p0.Points.length : Int)))), (31, .ptr 1452 0 3), (32, .ow 70005), (33, .cp [.sl 2 (List.map Qa p0.Pre), .sl 2 (List.map Qa p0.Post), .sl 2 (List.map Qd p0.Code), .sl 2 (List.map Qc p0.Points)]), (34, .cp [.sl 2 (List.map Qa p0.Pre), .sl 2 (List.map Qa p0.Post), .sl 2 (List.map Qd p0.Code), .sl 2 (List.map Qc p0.Points)]), (35, .cp [.sl 2 (List.map Qc p0.Points)]), (37, .int .i64 s0.2), (41, .cp [.sl 2 (List.map Qa p0.Pre), .sl 2 (List.map Qa p0.Post), .sl 2 (List.map Qd p0.Code), .sl 2 (List.map Qc p0.Points)]), (42, .cp [.sl 2 (List.map Qa p0.Pre), .sl 2 (List.map Qa p0.Post), .sl 2 (List.map Qd p0.Code), .sl 2 (List.map Qc p0.Points)]), (43, .cp [.sl 2 (List.map Qc p0.Points)]), (44, .sl 2 (List.map Qc p0.Points)), (45, .int .i64 s0.2), (46, .cp [.int .i64 x38.At, .sl 2 (List.map Qa x38.Facts)]), (47, .cp [.sl 2 (List.map Qa x38.Facts)])], [(11, .box [.snil, .snil, .snil, .snil]), (412, .arr ⟨false, true⟩ 2 184 (List.map Qa j0.1)), (812, .arr ⟨false, true⟩ 2 184 (List.map Qa j0.2)), (892, .arr ⟨false, false⟩ 2 40 (List.map Qd (([] : List Instr) ++ p0.Code))), (1452, .box [.ow 412, .ow 812, .ow 892, .ow 70005]), (70005, .arr ⟨false, true⟩ 2 81 (List.map Qc s0.1))]⟩ ?_ (fun hS5371_26 => ?_)
    ·refine Qz [5, 17] (by kernel_rfl) rfl ?_
     refine ⟨?_, ?_⟩
     ·refine ⟨_, rfl, ?_⟩
      refine Qb rfl rfl rfl rfl (Qg ag67 rfl rfl) ?_
      refine Qe ?_
      refine Ql [0, 2, 3, 4, 22, 23, 24, 25, 26, 27, 28, 31, 32, 33, 34, 35, 36, 37, 41, 42, 43, 44, 45, 46, 47] [11, 412, 812, 892, 1452, 70005] rfl rfl rfl rfl (by rw [hF]; rfl) ?_
      exact hS5371_7
     ·refine ⟨_, rfl, ?_⟩
      refine Qb rfl rfl rfl rfl (Qg ag66 rfl rfl) ?_
      refine Qe ?_
      refine Ql [0, 2, 3, 4, 22, 23, 24, 25, 26, 27, 28, 31, 32, 33, 34, 35, 37, 41, 42, 43, 44, 45, 46, 47, 48] [11, 412, 812, 892, 1452, 70005] rfl rfl rfl rfl (by rw [hF]; rfl) ?_
      exact hS5371_10
    refine Qy 11 [true, false, true, true, true, true, true, false, false, false, true, true, true, true, true, true, true, false, false, false, false, false, false, false] ⟨[(0, .cp [.sl 2 (List.map Qa p0.Pre), .sl 2 (List.map Qa p0.Post), .sl 2 (List.map Qd p0.Code), .sl 2 (List.map Qc p0.Points)]), (2, .ptr 11 0 0), (3, .ptr 1452 0 0), (4, .int .i64 s0.2), (22, .int .i64 s0.2), (23, .cp [.sl 2 (List.map Qa p0.Pre), .sl 2 (List.map Qa p0.Post), .sl 2 (List.map Qd p0.Code), .sl 2 (List.map Qc p0.Points)]), (24, .cp [.sl 2 (List.map Qa p0.Pre), .sl 2 (List.map Qa p0.Post), .sl 2 (List.map Qd p0.Code), .sl 2 (List.map Qc p0.Points)]), (25, .cp [.sl 2 (List.map Qc p0.Points)]), (26, .sl 2 (List.map Qc p0.Points)), (27, .int .i64 (p0.Points.length : Int)), (28, .bool (decide (s0.2 < (p0.Points.length : Int)))), (31, .ptr 1452 0 3), (33, .cp [.sl 2 (List.map Qa p0.Pre), .sl 2 (List.map Qa p0.Post), .sl 2 (List.map Qd p0.Code), .sl 2 (List.map Qc p0.Points)]), (34, .cp [.sl 2 (List.map Qa p0.Pre), .sl 2 (List.map Qa p0.Post), .sl 2 (List.map Qd p0.Code), .sl 2 (List.map Qc p0.Points)]), (35, .cp [.sl 2 (List.map Qc p0.Points)]), (36, .sl 2 (List.map Qc p0.Points)), (37, .int .i64 s0.2), (41, .cp [.sl 2 (List.map Qa p0.Pre), .sl 2 (List.map Qa p0.Post), .sl 2 (List.map Qd p0.Code), .sl 2 (List.map Qc p0.Points)]), (42, .cp [.sl 2 (List.map Qa p0.Pre), .sl 2 (List.map Qa p0.Post), .sl 2 (List.map Qd p0.Code), .sl 2 (List.map Qc p0.Points)]), (43, .cp [.sl 2 (List.map Qc p0.Points)]), (44, .sl 2 (List.map Qc p0.Points)), (45, .int .i64 s0.2), (46, .cp [.int .i64 x38.At, .sl 2 (List.map Qa x38.Facts)]), (47, .cp [.sl 2 (List.map Qa x38.Facts)])], [(11, .box [.snil, .snil, .snil, .snil]), (412, .arr ⟨false, true⟩ 2 184 (List.map Qa j0.1)), (812, .arr ⟨false, true⟩ 2 184 (List.map Qa j0.2)), (892, .arr ⟨false, false⟩ 2 40 (List.map Qd (([] : List Instr) ++ p0.Code))), (1452, .box [.ow 412, .ow 812, .ow 892, .ow 70005]), (70005, .arr ⟨false, true⟩ 2 81 (List.map Qc s0.1))]⟩ ?_ (fun hS5371_27 => ?_)
    ·refine Qn 7 (by kernel_rfl) rfl rfl rfl rfl rfl (QU el67 rfl rfl hx38 rfl) ?_
     refine Qn 8 (by kernel_rfl) rfl rfl rfl rfl rfl (QY (n := 1) fa81_0 rfl rfl rfl) ?_
     refine Qz [1, 9, 17] (by kernel_rfl) rfl ?_
     refine ⟨?_, ?_, ?_⟩
     ·refine ⟨_, rfl, ?_⟩
      refine Qb rfl rfl rfl rfl (Qg ag67 rfl rfl) ?_
      refine Qe ?_
      refine Ql [0, 2, 3, 4, 22, 23, 24, 25, 26, 27, 28, 31, 32, 33, 34, 35, 36, 37, 38, 39, 41, 42, 43, 44, 45, 46, 47] [11, 412, 812, 892, 1452, 70005] rfl rfl rfl rfl (by rw [hF]; rfl) ?_
      exact hS5371_20
     ·refine ⟨_, rfl, ?_⟩
      refine Qb rfl rfl rfl rfl (Qg ag2 rfl rfl) ?_
      refine Qe ?_
      refine Ql [0, 2, 3, 4, 22, 23, 24, 25, 26, 27, 28, 31, 33, 34, 35, 36, 37, 38, 39, 40, 41, 42, 43, 44, 45, 46, 47] [11, 412, 812, 892, 1452, 70005] rfl rfl rfl rfl (by rw [hF]; rfl) ?_
      exact hS5371_21
     ·refine ⟨_, rfl, ?_⟩
      refine Qb rfl rfl rfl rfl (Qg ag66 rfl rfl) ?_
      refine Qe ?_
      refine Ql [0, 2, 3, 4, 22, 23, 24, 25, 26, 27, 28, 31, 33, 34, 35, 36, 37, 38, 39, 41, 42, 43, 44, 45, 46, 47, 48] [11, 412, 812, 892, 1452, 70005] rfl rfl rfl rfl (by rw [hF]; rfl) ?_
      exact hS5371_23
    refine Qy 10 [true, false, true, true, true, true, true, false, false, false, true, true, true, true, true, true, true, true, false, false, false, false, false, false] ⟨[(0, .cp [.sl 2 (List.map Qa p0.Pre), .sl 2 (List.map Qa p0.Post), .sl 2 (List.map Qd p0.Code), .sl 2 (List.map Qc p0.Points)]), (2, .ptr 11 0 0), (3, .ptr 1452 0 0), (4, .int .i64 s0.2), (22, .int .i64 s0.2), (23, .cp [.sl 2 (List.map Qa p0.Pre), .sl 2 (List.map Qa p0.Post), .sl 2 (List.map Qd p0.Code), .sl 2 (List.map Qc p0.Points)]), (24, .cp [.sl 2 (List.map Qa p0.Pre), .sl 2 (List.map Qa p0.Post), .sl 2 (List.map Qd p0.Code), .sl 2 (List.map Qc p0.Points)]), (25, .cp [.sl 2 (List.map Qc p0.Points)]), (26, .sl 2 (List.map Qc p0.Points)), (27, .int .i64 (p0.Points.length : Int)), (28, .bool (decide (s0.2 < (p0.Points.length : Int)))), (31, .ptr 1452 0 3), (33, .cp [.sl 2 (List.map Qa p0.Pre), .sl 2 (List.map Qa p0.Post), .sl 2 (List.map Qd p0.Code), .sl 2 (List.map Qc p0.Points)]), (34, .cp [.sl 2 (List.map Qa p0.Pre), .sl 2 (List.map Qa p0.Post), .sl 2 (List.map Qd p0.Code), .sl 2 (List.map Qc p0.Points)]), (35, .cp [.sl 2 (List.map Qc p0.Points)]), (36, .sl 2 (List.map Qc p0.Points)), (37, .int .i64 s0.2), (41, .cp [.sl 2 (List.map Qa p0.Pre), .sl 2 (List.map Qa p0.Post), .sl 2 (List.map Qd p0.Code), .sl 2 (List.map Qc p0.Points)]), (42, .cp [.sl 2 (List.map Qa p0.Pre), .sl 2 (List.map Qa p0.Post), .sl 2 (List.map Qd p0.Code), .sl 2 (List.map Qc p0.Points)]), (43, .cp [.sl 2 (List.map Qc p0.Points)]), (44, .sl 2 (List.map Qc p0.Points)), (45, .int .i64 s0.2), (46, .cp [.int .i64 x38.At, .sl 2 (List.map Qa x38.Facts)]), (47, .cp [.sl 2 (List.map Qa x38.Facts)]), (48, .sl 2 (List.map Qa x38.Facts))], [(11, .box [.snil, .snil, .snil, .snil]), (412, .arr ⟨false, true⟩ 2 184 (List.map Qa j0.1)), (812, .arr ⟨false, true⟩ 2 184 (List.map Qa j0.2)), (892, .arr ⟨false, false⟩ 2 40 (List.map Qd (([] : List Instr) ++ p0.Code))), (1452, .box [.ow 412, .ow 812, .ow 892, .ow 70005]), (70005, .arr ⟨false, true⟩ 2 81 (List.map Qc s0.1))]⟩ ?_ (fun hS5371_28 => ?_)
    ·refine Qn 7 (by kernel_rfl) rfl rfl rfl rfl rfl (QU el67 rfl rfl hx38 rfl) ?_
     refine Qn 8 (by kernel_rfl) rfl rfl rfl rfl rfl (QY (n := 1) fa81_0 rfl rfl rfl) ?_
     refine Qz [1, 9, 18] (by kernel_rfl) rfl ?_
     refine ⟨?_, ?_, ?_⟩
     ·refine ⟨_, rfl, ?_⟩
      refine Qb rfl rfl rfl rfl (Qg ag67 rfl rfl) ?_
      refine Qe ?_
      refine Ql [0, 2, 3, 4, 22, 23, 24, 25, 26, 27, 28, 31, 32, 33, 34, 35, 36, 37, 38, 39, 41, 42, 43, 44, 45, 46, 47, 48] [11, 412, 812, 892, 1452, 70005] rfl rfl rfl rfl (by rw [hF]; rfl) ?_
      exact hS5371_4
     ·refine ⟨_, rfl, ?_⟩
      refine Qb rfl rfl rfl rfl (Qg ag2 rfl rfl) ?_
      refine Qe ?_
      refine Ql [0, 2, 3, 4, 22, 23, 24, 25, 26, 27, 28, 31, 33, 34, 35, 36, 37, 38, 39, 40, 41, 42, 43, 44, 45, 46, 47, 48] [11, 412, 812, 892, 1452, 70005] rfl rfl rfl rfl (by rw [hF]; rfl) ?_
      exact hS5371_17
     ·refine ⟨_, rfl, ?_⟩
      refine Qt [(1000, 6892)] (ACall.F (F := F) (Qp x38.Facts r49 hr49)) Try.call104 rfl rfl rfl rfl rfl rfl rfl rfl rfl rfl rfl rfl rfl ?_
      refine Qe ?_
      refine Ql [0, 2, 3, 4, 22, 23, 24, 25, 26, 27, 28, 31, 33, 34, 35, 36, 37, 38, 39, 41, 42, 43, 44, 45, 46, 47, 48, 49] [11, 412, 812, 892, 1452, 6892, 70005] rfl rfl rfl rfl (by rw [hF]; rfl) ?_
      exact hS5371_22
    refine Qy 9 [true, false, true, true, true, true, true, false, false, false, true, true, true, true, true, true, true, true, true, false, false, false, false, false] ⟨[(0, .cp [.sl 2 (List.map Qa p0.Pre), .sl 2 (List.map Qa p0.Post), .sl 2 (List.map Qd p0.Code), .sl 2 (List.map Qc p0.Points)]), (2, .ptr 11 0 0), (3, .ptr 1452 0 0), (4, .int .i64 s0.2), (22, .int .i64 s0.2), (23, .cp [.sl 2 (List.map Qa p0.Pre), .sl 2 (List.map Qa p0.Post), .sl 2 (List.map Qd p0.Code), .sl 2 (List.map Qc p0.Points)]), (24, .cp [.sl 2 (List.map Qa p0.Pre), .sl 2 (List.map Qa p0.Post), .sl 2 (List.map Qd p0.Code), .sl 2 (List.map Qc p0.Points)]), (25, .cp [.sl 2 (List.map Qc p0.Points)]), (26, .sl 2 (List.map Qc p0.Points)), (27, .int .i64 (p0.Points.length : Int)), (28, .bool (decide (s0.2 < (p0.Points.length : Int)))), (31, .ptr 1452 0 3), (33, .cp [.sl 2 (List.map Qa p0.Pre), .sl 2 (List.map Qa p0.Post), .sl 2 (List.map Qd p0.Code), .sl 2 (List.map Qc p0.Points)]), (34, .cp [.sl 2 (List.map Qa p0.Pre), .sl 2 (List.map Qa p0.Post), .sl 2 (List.map Qd p0.Code), .sl 2 (List.map Qc p0.Points)]), (35, .cp [.sl 2 (List.map Qc p0.Points)]), (36, .sl 2 (List.map Qc p0.Points)), (37, .int .i64 s0.2), (41, .cp [.sl 2 (List.map Qa p0.Pre), .sl 2 (List.map Qa p0.Post), .sl 2 (List.map Qd p0.Code), .sl 2 (List.map Qc p0.Points)]), (42, .cp [.sl 2 (List.map Qa p0.Pre), .sl 2 (List.map Qa p0.Post), .sl 2 (List.map Qd p0.Code), .sl 2 (List.map Qc p0.Points)]), (43, .cp [.sl 2 (List.map Qc p0.Points)]), (44, .sl 2 (List.map Qc p0.Points)), (45, .int .i64 s0.2), (46, .cp [.int .i64 x38.At, .sl 2 (List.map Qa x38.Facts)]), (47, .cp [.sl 2 (List.map Qa x38.Facts)]), (48, .sl 2 (List.map Qa x38.Facts)), (49, .ow 6892)], [(11, .box [.snil, .snil, .snil, .snil]), (412, .arr ⟨false, true⟩ 2 184 (List.map Qa j0.1)), (812, .arr ⟨false, true⟩ 2 184 (List.map Qa j0.2)), (892, .arr ⟨false, false⟩ 2 40 (List.map Qd (([] : List Instr) ++ p0.Code))), (1452, .box [.ow 412, .ow 812, .ow 892, .ow 70005]), (6892, .arr ⟨false, true⟩ 2 184 (List.map Qa r49)), (70005, .arr ⟨false, true⟩ 2 81 (List.map Qc s0.1))]⟩ ?_ (fun hS5371_29 => ?_)
    ·refine Qn 7 (by kernel_rfl) rfl rfl rfl rfl rfl (QU el67 rfl rfl hx38 rfl) ?_
     refine Qn 8 (by kernel_rfl) rfl rfl rfl rfl rfl (QY (n := 1) fa81_0 rfl rfl rfl) ?_
     refine Qz [1, 9] (by kernel_rfl) rfl ?_
     refine ⟨?_, ?_⟩
     ·refine ⟨_, rfl, ?_⟩
      refine Qb rfl rfl rfl rfl (Qg ag67 rfl rfl) ?_
      refine Qe ?_
      refine Ql [0, 2, 3, 4, 22, 23, 24, 25, 26, 27, 28, 31, 32, 33, 34, 35, 36, 37, 38, 39, 41, 42, 43, 44, 45, 46, 47, 48, 49] [11, 412, 812, 892, 1452, 6892, 70005] rfl rfl rfl rfl (by rw [hF]; rfl) ?_
      exact hS5371_3
     ·refine ⟨_, rfl, ?_⟩
      refine Qb rfl rfl rfl rfl (Qg ag2 rfl rfl) ?_
      refine Qe ?_
      refine Ql [0, 2, 3, 4, 22, 23, 24, 25, 26, 27, 28, 31, 33, 34, 35, 36, 37, 38, 39, 40, 41, 42, 43, 44, 45, 46, 47, 48, 49] [11, 412, 812, 892, 1452, 6892, 70005] rfl rfl rfl rfl (by rw [hF]; rfl) ?_
      exact hS5371_16
    refine Qy 10 [true, false, true, true, true, false, true, false, false, false, true, true, true, true, true, true, true, true, true, false, false, false, false, false] ⟨[(0, .cp [.sl 2 (List.map Qa p0.Pre), .sl 2 (List.map Qa p0.Post), .sl 2 (List.map Qd p0.Code), .sl 2 (List.map Qc p0.Points)]), (2, .ptr 11 0 0), (3, .ptr 1452 0 0), (4, .int .i64 s0.2), (22, .int .i64 s0.2), (23, .cp [.sl 2 (List.map Qa p0.Pre), .sl 2 (List.map Qa p0.Post), .sl 2 (List.map Qd p0.Code), .sl 2 (List.map Qc p0.Points)]), (24, .cp [.sl 2 (List.map Qa p0.Pre), .sl 2 (List.map Qa p0.Post), .sl 2 (List.map Qd p0.Code), .sl 2 (List.map Qc p0.Points)]), (25, .cp [.sl 2 (List.map Qc p0.Points)]), (26, .sl 2 (List.map Qc p0.Points)), (27, .int .i64 (p0.Points.length : Int)), (28, .bool (decide (s0.2 < (p0.Points.length : Int)))), (31, .ptr 1452 0 3), (33, .cp [.sl 2 (List.map Qa p0.Pre), .sl 2 (List.map Qa p0.Post), .sl 2 (List.map Qd p0.Code), .sl 2 (List.map Qc p0.Points)]), (34, .cp [.sl 2 (List.map Qa p0.Pre), .sl 2 (List.map Qa p0.Post), .sl 2 (List.map Qd p0.Code), .sl 2 (List.map Qc p0.Points)]), (35, .cp [.sl 2 (List.map Qc p0.Points)]), (37, .int .i64 s0.2), (41, .cp [.sl 2 (List.map Qa p0.Pre), .sl 2 (List.map Qa p0.Post), .sl 2 (List.map Qd p0.Code), .sl 2 (List.map Qc p0.Points)]), (42, .cp [.sl 2 (List.map Qa p0.Pre), .sl 2 (List.map Qa p0.Post), .sl 2 (List.map Qd p0.Code), .sl 2 (List.map Qc p0.Points)]), (43, .cp [.sl 2 (List.map Qc p0.Points)]), (44, .sl 2 (List.map Qc p0.Points)), (45, .int .i64 s0.2), (46, .cp [.int .i64 x38.At, .sl 2 (List.map Qa x38.Facts)]), (47, .cp [.sl 2 (List.map Qa x38.Facts)]), (48, .sl 2 (List.map Qa x38.Facts)), (49, .ow 6892)], [(11, .box [.snil, .snil, .snil, .snil]), (412, .arr ⟨false, true⟩ 2 184 (List.map Qa j0.1)), (812, .arr ⟨false, true⟩ 2 184 (List.map Qa j0.2)), (892, .arr ⟨false, false⟩ 2 40 (List.map Qd (([] : List Instr) ++ p0.Code))), (1452, .box [.ow 412, .ow 812, .ow 892, .ow 70005]), (6892, .arr ⟨false, true⟩ 2 184 (List.map Qa r49)), (70005, .arr ⟨false, true⟩ 2 81 (List.map Qc s0.1))]⟩ ?_ (fun hS5371_30 => ?_)
    ·refine Qz [1, 5] (by kernel_rfl) rfl ?_
     refine ⟨?_, ?_⟩
     ·refine ⟨_, rfl, ?_⟩
      refine Qb rfl rfl rfl rfl (Qg ag67 rfl rfl) ?_
      refine Qe ?_
      refine Ql [0, 2, 3, 4, 22, 23, 24, 25, 26, 27, 28, 31, 32, 33, 34, 35, 37, 41, 42, 43, 44, 45, 46, 47, 48, 49] [11, 412, 812, 892, 1452, 6892, 70005] rfl rfl rfl rfl (by rw [hF]; rfl) ?_
      exact hS5371_9
     ·refine ⟨_, rfl, ?_⟩
      refine Qb rfl rfl rfl rfl (Qg ag67 rfl rfl) ?_
      refine Qe ?_
      refine Ql [0, 2, 3, 4, 22, 23, 24, 25, 26, 27, 28, 31, 33, 34, 35, 36, 37, 41, 42, 43, 44, 45, 46, 47, 48, 49] [11, 412, 812, 892, 1452, 6892, 70005] rfl rfl rfl rfl (by rw [hF]; rfl) ?_
      exact hS5371_29
    refine Qy 11 [true, false, true, true, true, false, true, false, false, false, true, true, true, true, true, true, true, true, false, false, false, false, false, false] ⟨[(0, .cp [.sl 2 (List.map Qa p0.Pre), .sl 2 (List.map Qa p0.Post), .sl 2 (List.map Qd p0.Code), .sl 2 (List.map Qc p0.Points)]), (2, .ptr 11 0 0), (3, .ptr 1452 0 0), (4, .int .i64 s0.2), (22, .int .i64 s0.2), (23, .cp [.sl 2 (List.map Qa p0.Pre), .sl 2 (List.map Qa p0.Post), .sl 2 (List.map Qd p0.Code), .sl 2 (List.map Qc p0.Points)]), (24, .cp [.sl 2 (List.map Qa p0.Pre), .sl 2 (List.map Qa p0.Post), .sl 2 (List.map Qd p0.Code), .sl 2 (List.map Qc p0.Points)]), (25, .cp [.sl 2 (List.map Qc p0.Points)]), (26, .sl 2 (List.map Qc p0.Points)), (27, .int .i64 (p0.Points.length : Int)), (28, .bool (decide (s0.2 < (p0.Points.length : Int)))), (31, .ptr 1452 0 3), (33, .cp [.sl 2 (List.map Qa p0.Pre), .sl 2 (List.map Qa p0.Post), .sl 2 (List.map Qd p0.Code), .sl 2 (List.map Qc p0.Points)]), (34, .cp [.sl 2 (List.map Qa p0.Pre), .sl 2 (List.map Qa p0.Post), .sl 2 (List.map Qd p0.Code), .sl 2 (List.map Qc p0.Points)]), (35, .cp [.sl 2 (List.map Qc p0.Points)]), (37, .int .i64 s0.2), (41, .cp [.sl 2 (List.map Qa p0.Pre), .sl 2 (List.map Qa p0.Post), .sl 2 (List.map Qd p0.Code), .sl 2 (List.map Qc p0.Points)]), (42, .cp [.sl 2 (List.map Qa p0.Pre), .sl 2 (List.map Qa p0.Post), .sl 2 (List.map Qd p0.Code), .sl 2 (List.map Qc p0.Points)]), (43, .cp [.sl 2 (List.map Qc p0.Points)]), (44, .sl 2 (List.map Qc p0.Points)), (45, .int .i64 s0.2), (46, .cp [.int .i64 x38.At, .sl 2 (List.map Qa x38.Facts)]), (47, .cp [.sl 2 (List.map Qa x38.Facts)]), (48, .sl 2 (List.map Qa x38.Facts))], [(11, .box [.snil, .snil, .snil, .snil]), (412, .arr ⟨false, true⟩ 2 184 (List.map Qa j0.1)), (812, .arr ⟨false, true⟩ 2 184 (List.map Qa j0.2)), (892, .arr ⟨false, false⟩ 2 40 (List.map Qd (([] : List Instr) ++ p0.Code))), (1452, .box [.ow 412, .ow 812, .ow 892, .ow 70005]), (70005, .arr ⟨false, true⟩ 2 81 (List.map Qc s0.1))]⟩ ?_ (fun hS5371_31 => ?_)
    ·refine Qz [1, 5, 18] (by kernel_rfl) rfl ?_
     refine ⟨?_, ?_, ?_⟩
     ·refine ⟨_, rfl, ?_⟩
      refine Qb rfl rfl rfl rfl (Qg ag67 rfl rfl) ?_
      refine Qe ?_
      refine Ql [0, 2, 3, 4, 22, 23, 24, 25, 26, 27, 28, 31, 32, 33, 34, 35, 37, 41, 42, 43, 44, 45, 46, 47, 48] [11, 412, 812, 892, 1452, 70005] rfl rfl rfl rfl (by rw [hF]; rfl) ?_
      exact hS5371_10
     ·refine ⟨_, rfl, ?_⟩
      refine Qb rfl rfl rfl rfl (Qg ag67 rfl rfl) ?_
      refine Qe ?_
      refine Ql [0, 2, 3, 4, 22, 23, 24, 25, 26, 27, 28, 31, 33, 34, 35, 36, 37, 41, 42, 43, 44, 45, 46, 47, 48] [11, 412, 812, 892, 1452, 70005] rfl rfl rfl rfl (by rw [hF]; rfl) ?_
      exact hS5371_28
     ·refine ⟨_, rfl, ?_⟩
      refine Qt [(1000, 6892)] (ACall.F (F := F) (Qp x38.Facts r49 hr49)) Try.call104 rfl rfl rfl rfl rfl rfl rfl rfl rfl rfl rfl rfl rfl ?_
      refine Qe ?_
      refine Ql [0, 2, 3, 4, 22, 23, 24, 25, 26, 27, 28, 31, 33, 34, 35, 37, 41, 42, 43, 44, 45, 46, 47, 48, 49] [11, 412, 812, 892, 1452, 6892, 70005] rfl rfl rfl rfl (by rw [hF]; rfl) ?_
      exact hS5371_30
    refine Qy 14 [true, false, true, true, true, false, true, false, false, false, true, true, true, true, true, false, false, false, false, false, false, false, false, false] ⟨[(0, .cp [.sl 2 (List.map Qa p0.Pre), .sl 2 (List.map Qa p0.Post), .sl 2 (List.map Qd p0.Code), .sl 2 (List.map Qc p0.Points)]), (2, .ptr 11 0 0), (3, .ptr 1452 0 0), (4, .int .i64 s0.2), (22, .int .i64 s0.2), (23, .cp [.sl 2 (List.map Qa p0.Pre), .sl 2 (List.map Qa p0.Post), .sl 2 (List.map Qd p0.Code), .sl 2 (List.map Qc p0.Points)]), (24, .cp [.sl 2 (List.map Qa p0.Pre), .sl 2 (List.map Qa p0.Post), .sl 2 (List.map Qd p0.Code), .sl 2 (List.map Qc p0.Points)]), (25, .cp [.sl 2 (List.map Qc p0.Points)]), (26, .sl 2 (List.map Qc p0.Points)), (27, .int .i64 (p0.Points.length : Int)), (28, .bool (decide (s0.2 < (p0.Points.length : Int)))), (31, .ptr 1452 0 3), (33, .cp [.sl 2 (List.map Qa p0.Pre), .sl 2 (List.map Qa p0.Post), .sl 2 (List.map Qd p0.Code), .sl 2 (List.map Qc p0.Points)]), (34, .cp [.sl 2 (List.map Qa p0.Pre), .sl 2 (List.map Qa p0.Post), .sl 2 (List.map Qd p0.Code), .sl 2 (List.map Qc p0.Points)]), (35, .cp [.sl 2 (List.map Qc p0.Points)]), (37, .int .i64 s0.2), (41, .cp [.sl 2 (List.map Qa p0.Pre), .sl 2 (List.map Qa p0.Post), .sl 2 (List.map Qd p0.Code), .sl 2 (List.map Qc p0.Points)]), (42, .cp [.sl 2 (List.map Qa p0.Pre), .sl 2 (List.map Qa p0.Post), .sl 2 (List.map Qd p0.Code), .sl 2 (List.map Qc p0.Points)]), (43, .cp [.sl 2 (List.map Qc p0.Points)]), (44, .sl 2 (List.map Qc p0.Points)), (45, .int .i64 s0.2)], [(11, .box [.snil, .snil, .snil, .snil]), (412, .arr ⟨false, true⟩ 2 184 (List.map Qa j0.1)), (812, .arr ⟨false, true⟩ 2 184 (List.map Qa j0.2)), (892, .arr ⟨false, false⟩ 2 40 (List.map Qd (([] : List Instr) ++ p0.Code))), (1452, .box [.ow 412, .ow 812, .ow 892, .ow 70005]), (70005, .arr ⟨false, true⟩ 2 81 (List.map Qc s0.1))]⟩ ?_ (fun hS5371_32 => ?_)
    ·refine Qn 15 (by kernel_rfl) rfl rfl rfl rfl rfl (QU el67 rfl rfl hx38 rfl) ?_
     refine Qn 16 (by kernel_rfl) rfl rfl rfl rfl rfl (Qj fa81_1 rfl rfl) ?_
     refine Qz [1, 5, 17] (by kernel_rfl) rfl ?_
     refine ⟨?_, ?_, ?_⟩
     ·refine ⟨_, rfl, ?_⟩
      refine Qb rfl rfl rfl rfl (Qg ag67 rfl rfl) ?_
      refine Qe ?_
      refine Ql [0, 2, 3, 4, 22, 23, 24, 25, 26, 27, 28, 31, 32, 33, 34, 35, 37, 41, 42, 43, 44, 45, 46, 47] [11, 412, 812, 892, 1452, 70005] rfl rfl rfl rfl (by rw [hF]; rfl) ?_
      exact hS5371_26
     ·refine ⟨_, rfl, ?_⟩
      refine Qb rfl rfl rfl rfl (Qg ag67 rfl rfl) ?_
      refine Qe ?_
      refine Ql [0, 2, 3, 4, 22, 23, 24, 25, 26, 27, 28, 31, 33, 34, 35, 36, 37, 41, 42, 43, 44, 45, 46, 47] [11, 412, 812, 892, 1452, 70005] rfl rfl rfl rfl (by rw [hF]; rfl) ?_
      exact hS5371_27
     ·refine ⟨_, rfl, ?_⟩
      refine Qb rfl rfl rfl rfl (Qg ag66 rfl rfl) ?_
      refine Qe ?_
      refine Ql [0, 2, 3, 4, 22, 23, 24, 25, 26, 27, 28, 31, 33, 34, 35, 37, 41, 42, 43, 44, 45, 46, 47, 48] [11, 412, 812, 892, 1452, 70005] rfl rfl rfl rfl (by rw [hF]; rfl) ?_
      exact hS5371_31
    refine Qz [1, 5, 13] (by kernel_rfl) rfl ?_
    refine ⟨?_, ?_, ?_⟩
    ·refine ⟨_, rfl, ?_⟩
     refine Qb rfl rfl rfl rfl (Qg ag67 rfl rfl) ?_
     refine Qe ?_
     refine Ql [0, 2, 3, 4, 22, 23, 24, 25, 26, 27, 28, 31, 32, 33, 34, 35, 37, 41, 42, 43, 45] [11, 412, 812, 892, 1452, 70005] rfl rfl rfl rfl (by rw [hF]; rfl) ?_
     exact hS5371_12
    ·refine ⟨_, rfl, ?_⟩
     refine Qb rfl rfl rfl rfl (Qg ag67 rfl rfl) ?_
     refine Qe ?_
     refine Ql [0, 2, 3, 4, 22, 23, 24, 25, 26, 27, 28, 31, 33, 34, 35, 36, 37, 41, 42, 43, 45] [11, 412, 812, 892, 1452, 70005] rfl rfl rfl rfl (by rw [hF]; rfl) ?_
     exact hS5371_25
    ·refine ⟨_, rfl, ?_⟩
     refine Qb rfl rfl rfl rfl (Qg ag67 rfl rfl) ?_
     refine Qe ?_
     refine Ql [0, 2, 3, 4, 22, 23, 24, 25, 26, 27, 28, 31, 33, 34, 35, 37, 41, 42, 43, 44, 45] [11, 412, 812, 892, 1452, 70005] rfl rfl rfl rfl (by rw [hF]; rfl) ?_
     exact hS5371_32
   ·replace hm := QS hq hm
    refine Qm [2, 3] [11, 412, 812, 892, 1452, 70005] rfl rfl rfl rfl (by rw [hF]; rfl) ?_
    refine T_exit ?_
    obtain rfl := Qr hm
    have hn := QI hc0
    exact hx0 s0.1 hn
 ·refine T_drawZ [10, 15, 18] mix (by kernel_rfl) rfl ?_
  obtain ⟨r9, hr9, hm⟩ := Qw hm
  obtain ⟨r14, hr14, hm⟩ := Qw hm
  obtain ⟨q20, hq20, hm⟩ := Qw hm
  refine Qn 0 (by kernel_rfl) rfl rfl rfl rfl rfl (Qi rfl) ?_
  refine Qn 1 (by kernel_rfl) rfl rfl rfl rfl rfl (Xe rfl rfl) ?_
  refine Qn 2 (by kernel_rfl) rfl rfl rfl rfl rfl (QY (n := 1) fa69_0 rfl rfl rfl) ?_
  refine Qn 5 (by kernel_rfl) rfl rfl rfl rfl rfl (Qi rfl) ?_
  refine Qn 6 (by kernel_rfl) rfl rfl rfl rfl rfl (Xe rfl rfl) ?_
  refine Qn 7 (by kernel_rfl) rfl rfl rfl rfl rfl (QY (n := 1) fa69_1 rfl rfl rfl) ?_
  refine Qn 11 (by kernel_rfl) rfl rfl rfl rfl rfl (Qi rfl) ?_
  refine Qn 12 (by kernel_rfl) rfl rfl rfl rfl rfl (Xe rfl rfl) ?_
  refine Qn 13 (by kernel_rfl) rfl rfl rfl rfl rfl (QY (n := 1) fa69_2 rfl rfl rfl) ?_
  refine Qy 3 [true, true, true, true, true, true, true, true, true, true, true, true, true, true, true, true, false, false, false] ⟨[(0, .cp [.sl 2 (List.map Qa p0.Pre), .sl 2 (List.map Qa p0.Post), .sl 2 (List.map Qd p0.Code), .sl 2 (List.map Qc p0.Points)]), (2, .ptr 11 0 0), (5, .cp [.sl 2 (List.map Qa p0.Pre), .sl 2 (List.map Qa p0.Post), .sl 2 (List.map Qd p0.Code), .sl 2 (List.map Qc p0.Points)]), (6, .cp [.sl 2 (List.map Qa p0.Pre), .sl 2 (List.map Qa p0.Post), .sl 2 (List.map Qd p0.Code), .sl 2 (List.map Qc p0.Points)]), (7, .cp [.sl 2 (List.map Qa p0.Pre)]), (8, .sl 2 (List.map Qa p0.Pre)), (9, .ow 7693), (10, .cp [.sl 2 (List.map Qa p0.Pre), .sl 2 (List.map Qa p0.Post), .sl 2 (List.map Qd p0.Code), .sl 2 (List.map Qc p0.Points)]), (11, .cp [.sl 2 (List.map Qa p0.Pre), .sl 2 (List.map Qa p0.Post), .sl 2 (List.map Qd p0.Code), .sl 2 (List.map Qc p0.Points)]), (12, .cp [.sl 2 (List.map Qa p0.Post)]), (13, .sl 2 (List.map Qa p0.Post)), (14, .ow 8093), (15, .junk), (16, .cp [.sl 2 (List.map Qa p0.Pre), .sl 2 (List.map Qa p0.Post), .sl 2 (List.map Qd p0.Code), .sl 2 (List.map Qc p0.Points)]), (17, .cp [.sl 2 (List.map Qa p0.Pre), .sl 2 (List.map Qa p0.Post), .sl 2 (List.map Qd p0.Code), .sl 2 (List.map Qc p0.Points)]), (18, .cp [.sl 2 (List.map Qd p0.Code)]), (19, .sl 2 (List.map Qd p0.Code)), (20, .ow 8173)], [(11, .box [.snil, .snil, .snil, .snil]), (7693, .arr ⟨false, true⟩ 2 184 (List.map Qa r9)), (8093, .arr ⟨false, true⟩ 2 184 (List.map Qa r14)), (8173, .arr ⟨false, false⟩ 2 40 (List.map Qd (([] : List Instr) ++ p0.Code)))]⟩ ?_ (fun hS7292_0 => ?_)
  ·refine Qn 16 (by kernel_rfl) rfl rfl rfl rfl rfl (Q3 pl69 z69 rfl rfl rfl rfl rfl) ?_
   refine Qs 17 (by kernel_rfl) rfl ?_
   refine QJ 8733 z69 rfl rfl rfl rfl rfl rfl rfl ?_
   refine Qe ?_
   refine Qs 18 (by kernel_rfl) rfl ?_
   refine Qo sz69 rfl rfl rfl rfl rfl rfl rfl rfl rfl ?_
   refine Qe ?_
   refine QX (by kernel_rfl) ?_
   refine Qm [0, 2, 3] [11, 7693, 8093, 8173, 8733] rfl rfl rfl rfl (by rw [hF]; rfl) ?_
   refine T_ren [(11, 11), (7693, 412), (8093, 812), (8173, 892), (8733, 1452)] rfl rfl rfl (by rw [hF]; rfl) ?_
   exact hj0 (r9, r14) hm
  refine Qy 3 [true, true, true, true, true, true, true, true, true, true, true, true, true, true, true, false, false, true, false] ⟨[(0, .cp [.sl 2 (List.map Qa p0.Pre), .sl 2 (List.map Qa p0.Post), .sl 2 (List.map Qd p0.Code), .sl 2 (List.map Qc p0.Points)]), (2, .ptr 11 0 0), (3, .ptr 8733 0 0), (5, .cp [.sl 2 (List.map Qa p0.Pre), .sl 2 (List.map Qa p0.Post), .sl 2 (List.map Qd p0.Code), .sl 2 (List.map Qc p0.Points)]), (6, .cp [.sl 2 (List.map Qa p0.Pre), .sl 2 (List.map Qa p0.Post), .sl 2 (List.map Qd p0.Code), .sl 2 (List.map Qc p0.Points)]), (7, .cp [.sl 2 (List.map Qa p0.Pre)]), (8, .sl 2 (List.map Qa p0.Pre)), (9, .ow 7693), (10, .cp [.sl 2 (List.map Qa p0.Pre), .sl 2 (List.map Qa p0.Post), .sl 2 (List.map Qd p0.Code), .sl 2 (List.map Qc p0.Points)]), (11, .cp [.sl 2 (List.map Qa p0.Pre), .sl 2 (List.map Qa p0.Post), .sl 2 (List.map Qd p0.Code), .sl 2 (List.map Qc p0.Points)]), (12, .cp [.sl 2 (List.map Qa p0.Post)]), (13, .sl 2 (List.map Qa p0.Post)), (14, .ow 8093), (15, .ow 8173), (16, .cp [.sl 2 (List.map Qa p0.Pre), .sl 2 (List.map Qa p0.Post), .sl 2 (List.map Qd p0.Code), .sl 2 (List.map Qc p0.Points)]), (17, .cp [.sl 2 (List.map Qa p0.Pre), .sl 2 (List.map Qa p0.Post), .sl 2 (List.map Qd p0.Code), .sl 2 (List.map Qc p0.Points)]), (18, .cp [.sl 2 (List.map Qd p0.Code)]), (19, .sl 2 (List.map Qd p0.Code))], [(11, .box [.snil, .snil, .snil, .snil]), (7693, .arr ⟨false, true⟩ 2 184 (List.map Qa r9)), (8093, .arr ⟨false, true⟩ 2 184 (List.map Qa r14)), (8173, .arr ⟨false, false⟩ 2 40 (List.map Qd ([] : List Instr))), (8733, .box [.snil, .snil, .snil, .snil])]⟩ ?_ (fun hS7292_1 => ?_)
  ·refine Qs 15 (by kernel_rfl) rfl ?_
   refine Xn (f := Qd) (a := ([] : List Instr)) (b := p0.Code) el24 z40 rfl rfl rfl rfl rfl rfl rfl (Q9 hq20) rfl rfl rfl rfl rfl ?_
   refine Qe ?_
   refine Qn 16 (by kernel_rfl) rfl rfl rfl rfl rfl (Q3 pl69 z69 rfl rfl rfl rfl rfl) ?_
   refine Qs 18 (by kernel_rfl) rfl ?_
   refine Qo sz69 rfl rfl rfl rfl rfl rfl rfl rfl rfl ?_
   refine Qe ?_
   refine QX (by kernel_rfl) ?_
   refine Qm [0, 2, 3] [11, 7693, 8093, 8173, 8733] rfl rfl rfl rfl (by rw [hF]; rfl) ?_
   refine T_ren [(11, 11), (7693, 412), (8093, 812), (8173, 892), (8733, 1452)] rfl rfl rfl (by rw [hF]; rfl) ?_
   exact hj0 (r9, r14) hm
  refine Qy 5 [true, true, true, true, true, true, true, true, true, true, true, true, true, true, false, false, false, false, false] ⟨[(0, .cp [.sl 2 (List.map Qa p0.Pre), .sl 2 (List.map Qa p0.Post), .sl 2 (List.map Qd p0.Code), .sl 2 (List.map Qc p0.Points)]), (2, .ptr 11 0 0), (5, .cp [.sl 2 (List.map Qa p0.Pre), .sl 2 (List.map Qa p0.Post), .sl 2 (List.map Qd p0.Code), .sl 2 (List.map Qc p0.Points)]), (6, .cp [.sl 2 (List.map Qa p0.Pre), .sl 2 (List.map Qa p0.Post), .sl 2 (List.map Qd p0.Code), .sl 2 (List.map Qc p0.Points)]), (7, .cp [.sl 2 (List.map Qa p0.Pre)]), (8, .sl 2 (List.map Qa p0.Pre)), (9, .ow 7693), (10, .cp [.sl 2 (List.map Qa p0.Pre), .sl 2 (List.map Qa p0.Post), .sl 2 (List.map Qd p0.Code), .sl 2 (List.map Qc p0.Points)]), (11, .cp [.sl 2 (List.map Qa p0.Pre), .sl 2 (List.map Qa p0.Post), .sl 2 (List.map Qd p0.Code), .sl 2 (List.map Qc p0.Points)]), (12, .cp [.sl 2 (List.map Qa p0.Post)]), (13, .sl 2 (List.map Qa p0.Post)), (14, .ow 8093), (15, .ow 8173), (16, .cp [.sl 2 (List.map Qa p0.Pre), .sl 2 (List.map Qa p0.Post), .sl 2 (List.map Qd p0.Code), .sl 2 (List.map Qc p0.Points)]), (17, .cp [.sl 2 (List.map Qa p0.Pre), .sl 2 (List.map Qa p0.Post), .sl 2 (List.map Qd p0.Code), .sl 2 (List.map Qc p0.Points)]), (18, .cp [.sl 2 (List.map Qd p0.Code)])], [(11, .box [.snil, .snil, .snil, .snil]), (7693, .arr ⟨false, true⟩ 2 184 (List.map Qa r9)), (8093, .arr ⟨false, true⟩ 2 184 (List.map Qa r14)), (8173, .arr ⟨false, false⟩ 2 40 (List.map Qd ([] : List Instr)))]⟩ ?_ (fun hS7292_2 => ?_)
  ·refine Qn 14 (by kernel_rfl) rfl rfl rfl rfl rfl (Qg ag24 rfl rfl) ?_
   refine Qz [15, 17] (by kernel_rfl) rfl ?_
   refine ⟨?_, ?_⟩
   ·refine ⟨_, rfl, ?_⟩
    refine Xn (f := Qd) (a := ([] : List Instr)) (b := p0.Code) el24 z40 rfl rfl rfl rfl rfl rfl rfl (Q9 hq20) rfl rfl rfl rfl rfl ?_
    refine Qe ?_
    refine Ql [0, 2, 5, 6, 7, 8, 9, 10, 11, 12, 13, 14, 15, 16, 17, 18, 19, 20] [11, 7693, 8093, 8173] rfl rfl rfl rfl (by rw [hF]; rfl) ?_
    exact hS7292_0
   ·refine ⟨_, rfl, ?_⟩
    refine QJ 8733 z69 rfl rfl rfl rfl rfl rfl rfl ?_
    refine Qe ?_
    refine Ql [0, 2, 3, 5, 6, 7, 8, 9, 10, 11, 12, 13, 14, 15, 16, 17, 18, 19] [11, 7693, 8093, 8173, 8733] rfl rfl rfl rfl (by rw [hF]; rfl) ?_
    exact hS7292_1
  refine Qy 4 [true, true, true, true, true, true, true, true, true, true, true, true, true, true, true, false, false, false, false] ⟨[(0, .cp [.sl 2 (List.map Qa p0.Pre), .sl 2 (List.map Qa p0.Post), .sl 2 (List.map Qd p0.Code), .sl 2 (List.map Qc p0.Points)]), (2, .ptr 11 0 0), (5, .cp [.sl 2 (List.map Qa p0.Pre), .sl 2 (List.map Qa p0.Post), .sl 2 (List.map Qd p0.Code), .sl 2 (List.map Qc p0.Points)]), (6, .cp [.sl 2 (List.map Qa p0.Pre), .sl 2 (List.map Qa p0.Post), .sl 2 (List.map Qd p0.Code), .sl 2 (List.map Qc p0.Points)]), (7, .cp [.sl 2 (List.map Qa p0.Pre)]), (8, .sl 2 (List.map Qa p0.Pre)), (9, .ow 7693), (10, .cp [.sl 2 (List.map Qa p0.Pre), .sl 2 (List.map Qa p0.Post), .sl 2 (List.map Qd p0.Code), .sl 2 (List.map Qc p0.Points)]), (11, .cp [.sl 2 (List.map Qa p0.Pre), .sl 2 (List.map Qa p0.Post), .sl 2 (List.map Qd p0.Code), .sl 2 (List.map Qc p0.Points)]), (12, .cp [.sl 2 (List.map Qa p0.Post)]), (13, .sl 2 (List.map Qa p0.Post)), (14, .ow 8093), (15, .ow 8173), (16, .cp [.sl 2 (List.map Qa p0.Pre), .sl 2 (List.map Qa p0.Post), .sl 2 (List.map Qd p0.Code), .sl 2 (List.map Qc p0.Points)]), (17, .cp [.sl 2 (List.map Qa p0.Pre), .sl 2 (List.map Qa p0.Post), .sl 2 (List.map Qd p0.Code), .sl 2 (List.map Qc p0.Points)]), (18, .cp [.sl 2 (List.map Qd p0.Code)]), (19, .sl 2 (List.map Qd p0.Code))], [(11, .box [.snil, .snil, .snil, .snil]), (7693, .arr ⟨false, true⟩ 2 184 (List.map Qa r9)), (8093, .arr ⟨false, true⟩ 2 184 (List.map Qa r14)), (8173, .arr ⟨false, false⟩ 2 40 (List.map Qd ([] : List Instr)))]⟩ ?_ (fun hS7292_3 => ?_)
  ·refine Qz [15, 17] (by kernel_rfl) rfl ?_
   refine ⟨?_, ?_⟩
   ·refine ⟨_, rfl, ?_⟩
    refine Xn (f := Qd) (a := ([] : List Instr)) (b := p0.Code) el24 z40 rfl rfl rfl rfl rfl rfl rfl (Q9 hq20) rfl rfl rfl rfl rfl ?_
    refine Qe ?_
    refine Ql [0, 2, 5, 6, 7, 8, 9, 10, 11, 12, 13, 14, 15, 16, 17, 18, 19, 20] [11, 7693, 8093, 8173] rfl rfl rfl rfl (by rw [hF]; rfl) ?_
    exact hS7292_0
   ·refine ⟨_, rfl, ?_⟩
    refine QJ 8733 z69 rfl rfl rfl rfl rfl rfl rfl ?_
    refine Qe ?_
    refine Ql [0, 2, 3, 5, 6, 7, 8, 9, 10, 11, 12, 13, 14, 15, 16, 17, 18, 19] [11, 7693, 8093, 8173, 8733] rfl rfl rfl rfl (by rw [hF]; rfl) ?_
    exact hS7292_1
  refine Qy 4 [true, true, true, true, true, true, true, true, true, true, false, true, true, true, true, false, false, true, false] ⟨[(0, .cp [.sl 2 (List.map Qa p0.Pre), .sl 2 (List.map Qa p0.Post), .sl 2 (List.map Qd p0.Code), .sl 2 (List.map Qc p0.Points)]), (2, .ptr 11 0 0), (3, .ptr 8733 0 0), (5, .cp [.sl 2 (List.map Qa p0.Pre), .sl 2 (List.map Qa p0.Post), .sl 2 (List.map Qd p0.Code), .sl 2 (List.map Qc p0.Points)]), (6, .cp [.sl 2 (List.map Qa p0.Pre), .sl 2 (List.map Qa p0.Post), .sl 2 (List.map Qd p0.Code), .sl 2 (List.map Qc p0.Points)]), (7, .cp [.sl 2 (List.map Qa p0.Pre)]), (8, .sl 2 (List.map Qa p0.Pre)), (9, .ow 7693), (10, .cp [.sl 2 (List.map Qa p0.Pre), .sl 2 (List.map Qa p0.Post), .sl 2 (List.map Qd p0.Code), .sl 2 (List.map Qc p0.Points)]), (11, .cp [.sl 2 (List.map Qa p0.Pre), .sl 2 (List.map Qa p0.Post), .sl 2 (List.map Qd p0.Code), .sl 2 (List.map Qc p0.Points)]), (12, .cp [.sl 2 (List.map Qa p0.Post)]), (13, .sl 2 (List.map Qa p0.Post)), (14, .ow 8093), (16, .cp [.sl 2 (List.map Qa p0.Pre), .sl 2 (List.map Qa p0.Post), .sl 2 (List.map Qd p0.Code), .sl 2 (List.map Qc p0.Points)]), (17, .cp [.sl 2 (List.map Qa p0.Pre), .sl 2 (List.map Qa p0.Post), .sl 2 (List.map Qd p0.Code), .sl 2 (List.map Qc p0.Points)]), (18, .cp [.sl 2 (List.map Qd p0.Code)]), (19, .sl 2 (List.map Qd p0.Code))], [(11, .box [.snil, .snil, .snil, .snil]), (7693, .arr ⟨false, true⟩ 2 184 (List.map Qa r9)), (8093, .arr ⟨false, true⟩ 2 184 (List.map Qa r14)), (8733, .box [.snil, .snil, .snil, .snil])]⟩ ?_ (fun hS7292_4 => ?_)
  ·refine Qs 10 (by kernel_rfl) rfl ?_
   refine QE 8173 (es := List.map Qd ([] : List Instr)) el24 z40 rfl rfl rfl rfl rfl rfl rfl rfl rfl ?_
   refine Qe ?_
   refine Qs 15 (by kernel_rfl) rfl ?_
   refine Xn (f := Qd) (a := ([] : List Instr)) (b := p0.Code) el24 z40 rfl rfl rfl rfl rfl rfl rfl (Q9 hq20) rfl rfl rfl rfl rfl ?_
   refine Qe ?_
   refine Qn 16 (by kernel_rfl) rfl rfl rfl rfl rfl (Q3 pl69 z69 rfl rfl rfl rfl rfl) ?_
   refine Qs 18 (by kernel_rfl) rfl ?_
   refine Qo sz69 rfl rfl rfl rfl rfl rfl rfl rfl rfl ?_
   refine Qe ?_
   refine QX (by kernel_rfl) ?_
   refine Qm [0, 2, 3] [11, 7693, 8093, 8173, 8733] rfl rfl rfl rfl (by rw [hF]; rfl) ?_
   refine T_ren [(11, 11), (7693, 412), (8093, 812), (8173, 892), (8733, 1452)] rfl rfl rfl (by rw [hF]; rfl) ?_
   exact hj0 (r9, r14) hm
  refine Qy 5 [true, true, true, true, true, true, true, true, true, true, false, true, true, true, true, false, false, false, false] ⟨[(0, .cp [.sl 2 (List.map Qa p0.Pre), .sl 2 (List.map Qa p0.Post), .sl 2 (List.map Qd p0.Code), .sl 2 (List.map Qc p0.Points)]), (2, .ptr 11 0 0), (5, .cp [.sl 2 (List.map Qa p0.Pre), .sl 2 (List.map Qa p0.Post), .sl 2 (List.map Qd p0.Code), .sl 2 (List.map Qc p0.Points)]), (6, .cp [.sl 2 (List.map Qa p0.Pre), .sl 2 (List.map Qa p0.Post), .sl 2 (List.map Qd p0.Code), .sl 2 (List.map Qc p0.Points)]), (7, .cp [.sl 2 (List.map Qa p0.Pre)]), (8, .sl 2 (List.map Qa p0.Pre)), (9, .ow 7693), (10, .cp [.sl 2 (List.map Qa p0.Pre), .sl 2 (List.map Qa p0.Post), .sl 2 (List.map Qd p0.Code), .sl 2 (List.map Qc p0.Points)]), (11, .cp [.sl 2 (List.map Qa p0.Pre), .sl 2 (List.map Qa p0.Post), .sl 2 (List.map Qd p0.Code), .sl 2 (List.map Qc p0.Points)]), (12, .cp [.sl 2 (List.map Qa p0.Post)]), (13, .sl 2 (List.map Qa p0.Post)), (14, .ow 8093), (16, .cp [.sl 2 (List.map Qa p0.Pre), .sl 2 (List.map Qa p0.Post), .sl 2 (List.map Qd p0.Code), .sl 2 (List.map Qc p0.Points)]), (17, .cp [.sl 2 (List.map Qa p0.Pre), .sl 2 (List.map Qa p0.Post), .sl 2 (List.map Qd p0.Code), .sl 2 (List.map Qc p0.Points)]), (18, .cp [.sl 2 (List.map Qd p0.Code)]), (19, .sl 2 (List.map Qd p0.Code))], [(11, .box [.snil, .snil, .snil, .snil]), (7693, .arr ⟨false, true⟩ 2 184 (List.map Qa r9)), (8093, .arr ⟨false, true⟩ 2 184 (List.map Qa r14))]⟩ ?_ (fun hS7292_5 => ?_)
  ·refine Qz [10, 17] (by kernel_rfl) rfl ?_
   refine ⟨?_, ?_⟩
   ·refine ⟨_, rfl, ?_⟩
    refine QE 8173 (es := List.map Qd ([] : List Instr)) el24 z40 rfl rfl rfl rfl rfl rfl rfl rfl rfl ?_
    refine Qe ?_
    refine Ql [0, 2, 5, 6, 7, 8, 9, 10, 11, 12, 13, 14, 15, 16, 17, 18, 19] [11, 7693, 8093, 8173] rfl rfl rfl rfl (by rw [hF]; rfl) ?_
    exact hS7292_3
   ·refine ⟨_, rfl, ?_⟩
    refine QJ 8733 z69 rfl rfl rfl rfl rfl rfl rfl ?_
    refine Qe ?_
    refine Ql [0, 2, 3, 5, 6, 7, 8, 9, 10, 11, 12, 13, 14, 16, 17, 18, 19] [11, 7693, 8093, 8733] rfl rfl rfl rfl (by rw [hF]; rfl) ?_
    exact hS7292_4
  refine Qy 4 [true, true, true, true, true, true, true, true, true, true, true, true, true, true, false, false, false, true, false] ⟨[(0, .cp [.sl 2 (List.map Qa p0.Pre), .sl 2 (List.map Qa p0.Post), .sl 2 (List.map Qd p0.Code), .sl 2 (List.map Qc p0.Points)]), (2, .ptr 11 0 0), (3, .ptr 8733 0 0), (5, .cp [.sl 2 (List.map Qa p0.Pre), .sl 2 (List.map Qa p0.Post), .sl 2 (List.map Qd p0.Code), .sl 2 (List.map Qc p0.Points)]), (6, .cp [.sl 2 (List.map Qa p0.Pre), .sl 2 (List.map Qa p0.Post), .sl 2 (List.map Qd p0.Code), .sl 2 (List.map Qc p0.Points)]), (7, .cp [.sl 2 (List.map Qa p0.Pre)]), (8, .sl 2 (List.map Qa p0.Pre)), (9, .ow 7693), (10, .cp [.sl 2 (List.map Qa p0.Pre), .sl 2 (List.map Qa p0.Post), .sl 2 (List.map Qd p0.Code), .sl 2 (List.map Qc p0.Points)]), (11, .cp [.sl 2 (List.map Qa p0.Pre), .sl 2 (List.map Qa p0.Post), .sl 2 (List.map Qd p0.Code), .sl 2 (List.map Qc p0.Points)]), (12, .cp [.sl 2 (List.map Qa p0.Post)]), (13, .sl 2 (List.map Qa p0.Post)), (14, .ow 8093), (15, .ow 8173), (16, .cp [.sl 2 (List.map Qa p0.Pre), .sl 2 (List.map Qa p0.Post), .sl 2 (List.map Qd p0.Code), .sl 2 (List.map Qc p0.Points)]), (17, .cp [.sl 2 (List.map Qa p0.Pre), .sl 2 (List.map Qa p0.Post), .sl 2 (List.map Qd p0.Code), .sl 2 (List.map Qc p0.Points)]), (18, .cp [.sl 2 (List.map Qd p0.Code)])], [(11, .box [.snil, .snil, .snil, .snil]), (7693, .arr ⟨false, true⟩ 2 184 (List.map Qa r9)), (8093, .arr ⟨false, true⟩ 2 184 (List.map Qa r14)), (8173, .arr ⟨false, false⟩ 2 40 (List.map Qd ([] : List Instr))), (8733, .box [.snil, .snil, .snil, .snil])]⟩ ?_ (fun hS7292_6 => ?_)
  ·refine Qn 14 (by kernel_rfl) rfl rfl rfl rfl rfl (Qg ag24 rfl rfl) ?_
   refine Qs 15 (by kernel_rfl) rfl ?_
   refine Xn (f := Qd) (a := ([] : List Instr)) (b := p0.Code) el24 z40 rfl rfl rfl rfl rfl rfl rfl (Q9 hq20) rfl rfl rfl rfl rfl ?_
   refine Qe ?_
   refine Qn 16 (by kernel_rfl) rfl rfl rfl rfl rfl (Q3 pl69 z69 rfl rfl rfl rfl rfl) ?_
   refine Qs 18 (by kernel_rfl) rfl ?_
   refine Qo sz69 rfl rfl rfl rfl rfl rfl rfl rfl rfl ?_
   refine Qe ?_
   refine QX (by kernel_rfl) ?_
   refine Qm [0, 2, 3] [11, 7693, 8093, 8173, 8733] rfl rfl rfl rfl (by rw [hF]; rfl) ?_
   refine T_ren [(11, 11), (7693, 412), (8093, 812), (8173, 892), (8733, 1452)] rfl rfl rfl (by rw [hF]; rfl) ?_
   exact hj0 (r9, r14) hm
  refine Qy 5 [true, true, true, true, true, true, true, true, true, true, false, true, true, true, false, false, false, true, false] ⟨[(0, .cp [.sl 2 (List.map Qa p0.Pre), .sl 2 (List.map Qa p0.Post), .sl 2 (List.map Qd p0.Code), .sl 2 (List.map Qc p0.Points)]), (2, .ptr 11 0 0), (3, .ptr 8733 0 0), (5, .cp [.sl 2 (List.map Qa p0.Pre), .sl 2 (List.map Qa p0.Post), .sl 2 (List.map Qd p0.Code), .sl 2 (List.map Qc p0.Points)]), (6, .cp [.sl 2 (List.map Qa p0.Pre), .sl 2 (List.map Qa p0.Post), .sl 2 (List.map Qd p0.Code), .sl 2 (List.map Qc p0.Points)]), (7, .cp [.sl 2 (List.map Qa p0.Pre)]), (8, .sl 2 (List.map Qa p0.Pre)), (9, .ow 7693), (10, .cp [.sl 2 (List.map Qa p0.Pre), .sl 2 (List.map Qa p0.Post), .sl 2 (List.map Qd p0.Code), .sl 2 (List.map Qc p0.Points)]), (11, .cp [.sl 2 (List.map Qa p0.Pre), .sl 2 (List.map Qa p0.Post), .sl 2 (List.map Qd p0.Code), .sl 2 (List.map Qc p0.Points)]), (12, .cp [.sl 2 (List.map Qa p0.Post)]), (13, .sl 2 (List.map Qa p0.Post)), (14, .ow 8093), (16, .cp [.sl 2 (List.map Qa p0.Pre), .sl 2 (List.map Qa p0.Post), .sl 2 (List.map Qd p0.Code), .sl 2 (List.map Qc p0.Points)]), (17, .cp [.sl 2 (List.map Qa p0.Pre), .sl 2 (List.map Qa p0.Post), .sl 2 (List.map Qd p0.Code), .sl 2 (List.map Qc p0.Points)]), (18, .cp [.sl 2 (List.map Qd p0.Code)])], [(11, .box [.snil, .snil, .snil, .snil]), (7693, .arr ⟨false, true⟩ 2 184 (List.map Qa r9)), (8093, .arr ⟨false, true⟩ 2 184 (List.map Qa r14)), (8733, .box [.snil, .snil, .snil, .snil])]⟩ ?_ (fun hS7292_7 => ?_)
  ·refine Qz [10, 14] (by kernel_rfl) rfl ?_
   refine ⟨?_, ?_⟩
   ·refine ⟨_, rfl, ?_⟩
    refine QE 8173 (es := List.map Qd ([] : List Instr)) el24 z40 rfl rfl rfl rfl rfl rfl rfl rfl rfl ?_
    refine Qe ?_
    refine Ql [0, 2, 3, 5, 6, 7, 8, 9, 10, 11, 12, 13, 14, 15, 16, 17, 18] [11, 7693, 8093, 8173, 8733] rfl rfl rfl rfl (by rw [hF]; rfl) ?_
    exact hS7292_6
   ·refine ⟨_, rfl, ?_⟩
    refine Qb rfl rfl rfl rfl (Qg ag24 rfl rfl) ?_
    refine Qe ?_
    refine Ql [0, 2, 3, 5, 6, 7, 8, 9, 10, 11, 12, 13, 14, 16, 17, 18, 19] [11, 7693, 8093, 8733] rfl rfl rfl rfl (by rw [hF]; rfl) ?_
    exact hS7292_4
  refine Qy 6 [true, true, true, true, true, true, true, true, true, true, false, true, true, true, false, false, false, false, false] ⟨[(0, .cp [.sl 2 (List.map Qa p0.Pre), .sl 2 (List.map Qa p0.Post), .sl 2 (List.map Qd p0.Code), .sl 2 (List.map Qc p0.Points)]), (2, .ptr 11 0 0), (5, .cp [.sl 2 (List.map Qa p0.Pre), .sl 2 (List.map Qa p0.Post), .sl 2 (List.map Qd p0.Code), .sl 2 (List.map Qc p0.Points)]), (6, .cp [.sl 2 (List.map Qa p0.Pre), .sl 2 (List.map Qa p0.Post), .sl 2 (List.map Qd p0.Code), .sl 2 (List.map Qc p0.Points)]), (7, .cp [.sl 2 (List.map Qa p0.Pre)]), (8, .sl 2 (List.map Qa p0.Pre)), (9, .ow 7693), (10, .cp [.sl 2 (List.map Qa p0.Pre), .sl 2 (List.map Qa p0.Post), .sl 2 (List.map Qd p0.Code), .sl 2 (List.map Qc p0.Points)]), (11, .cp [.sl 2 (List.map Qa p0.Pre), .sl 2 (List.map Qa p0.Post), .sl 2 (List.map Qd p0.Code), .sl 2 (List.map Qc p0.Points)]), (12, .cp [.sl 2 (List.map Qa p0.Post)]), (13, .sl 2 (List.map Qa p0.Post)), (14, .ow 8093), (16, .cp [.sl 2 (List.map Qa p0.Pre), .sl 2 (List.map Qa p0.Post), .sl 2 (List.map Qd p0.Code), .sl 2 (List.map Qc p0.Points)]), (17, .cp [.sl 2 (List.map Qa p0.Pre), .sl 2 (List.map Qa p0.Post), .sl 2 (List.map Qd p0.Code), .sl 2 (List.map Qc p0.Points)]), (18, .cp [.sl 2 (List.map Qd p0.Code)])], [(11, .box [.snil, .snil, .snil, .snil]), (7693, .arr ⟨false, true⟩ 2 184 (List.map Qa r9)), (8093, .arr ⟨false, true⟩ 2 184 (List.map Qa r14))]⟩ ?_ (fun hS7292_8 => ?_)
  ·refine Qz [10, 14, 17] (by kernel_rfl) rfl ?_
   refine ⟨?_, ?_, ?_⟩
   ·refine ⟨_, rfl, ?_⟩
    refine QE 8173 (es := List.map Qd ([] : List Instr)) el24 z40 rfl rfl rfl rfl rfl rfl rfl rfl rfl ?_
    refine Qe ?_
    refine Ql [0, 2, 5, 6, 7, 8, 9, 10, 11, 12, 13, 14, 15, 16, 17, 18] [11, 7693, 8093, 8173] rfl rfl rfl rfl (by rw [hF]; rfl) ?_
    exact hS7292_2
   ·refine ⟨_, rfl, ?_⟩
    refine Qb rfl rfl rfl rfl (Qg ag24 rfl rfl) ?_
    refine Qe ?_
    refine Ql [0, 2, 5, 6, 7, 8, 9, 10, 11, 12, 13, 14, 16, 17, 18, 19] [11, 7693, 8093] rfl rfl rfl rfl (by rw [hF]; rfl) ?_
    exact hS7292_5
   ·refine ⟨_, rfl, ?_⟩
    refine QJ 8733 z69 rfl rfl rfl rfl rfl rfl rfl ?_
    refine Qe ?_
    refine Ql [0, 2, 3, 5, 6, 7, 8, 9, 10, 11, 12, 13, 14, 16, 17, 18] [11, 7693, 8093, 8733] rfl rfl rfl rfl (by rw [hF]; rfl) ?_
    exact hS7292_7
  refine Qy 4 [true, true, true, true, true, true, true, true, true, false, true, true, true, true, true, false, false, true, false] ⟨[(0, .cp [.sl 2 (List.map Qa p0.Pre), .sl 2 (List.map Qa p0.Post), .sl 2 (List.map Qd p0.Code), .sl 2 (List.map Qc p0.Points)]), (2, .ptr 11 0 0), (3, .ptr 8733 0 0), (5, .cp [.sl 2 (List.map Qa p0.Pre), .sl 2 (List.map Qa p0.Post), .sl 2 (List.map Qd p0.Code), .sl 2 (List.map Qc p0.Points)]), (6, .cp [.sl 2 (List.map Qa p0.Pre), .sl 2 (List.map Qa p0.Post), .sl 2 (List.map Qd p0.Code), .sl 2 (List.map Qc p0.Points)]), (7, .cp [.sl 2 (List.map Qa p0.Pre)]), (8, .sl 2 (List.map Qa p0.Pre)), (9, .ow 7693), (10, .cp [.sl 2 (List.map Qa p0.Pre), .sl 2 (List.map Qa p0.Post), .sl 2 (List.map Qd p0.Code), .sl 2 (List.map Qc p0.Points)]), (11, .cp [.sl 2 (List.map Qa p0.Pre), .sl 2 (List.map Qa p0.Post), .sl 2 (List.map Qd p0.Code), .sl 2 (List.map Qc p0.Points)]), (12, .cp [.sl 2 (List.map Qa p0.Post)]), (13, .sl 2 (List.map Qa p0.Post)), (15, .ow 8173), (16, .cp [.sl 2 (List.map Qa p0.Pre), .sl 2 (List.map Qa p0.Post), .sl 2 (List.map Qd p0.Code), .sl 2 (List.map Qc p0.Points)]), (17, .cp [.sl 2 (List.map Qa p0.Pre), .sl 2 (List.map Qa p0.Post), .sl 2 (List.map Qd p0.Code), .sl 2 (List.map Qc p0.Points)]), (18, .cp [.sl 2 (List.map Qd p0.Code)]), (19, .sl 2 (List.map Qd p0.Code))], [(11, .box [.snil, .snil, .snil, .snil]), (7693, .arr ⟨false, true⟩ 2 184 (List.map Qa r9)), (8173, .arr ⟨false, false⟩ 2 40 (List.map Qd ([] : List Instr))), (8733, .box [.snil, .snil, .snil, .snil])]⟩ ?_ (fun hS7292_9 => ?_)
  ·refine Qs 9 (by kernel_rfl) rfl ?_
   refine Qt [(1000, 8093)] (ACall.F (F := F) (Qp p0.Post r14 hr14)) Try.call104 rfl rfl rfl rfl rfl rfl rfl rfl rfl rfl rfl rfl rfl ?_
   refine Qe ?_
   refine Qs 15 (by kernel_rfl) rfl ?_
   refine Xn (f := Qd) (a := ([] : List Instr)) (b := p0.Code) el24 z40 rfl rfl rfl rfl rfl rfl rfl (Q9 hq20) rfl rfl rfl rfl rfl ?_
   refine Qe ?_
   refine Qn 16 (by kernel_rfl) rfl rfl rfl rfl rfl (Q3 pl69 z69 rfl rfl rfl rfl rfl) ?_
   refine Qs 18 (by kernel_rfl) rfl ?_
   refine Qo sz69 rfl rfl rfl rfl rfl rfl rfl rfl rfl ?_
   refine Qe ?_
   refine QX (by kernel_rfl) ?_
   refine Qm [0, 2, 3] [11, 7693, 8093, 8173, 8733] rfl rfl rfl rfl (by rw [hF]; rfl) ?_
   refine T_ren [(11, 11), (7693, 412), (8093, 812), (8173, 892), (8733, 1452)] rfl rfl rfl (by rw [hF]; rfl) ?_
   exact hj0 (r9, r14) hm
  refine Qy 6 [true, true, true, true, true, true, true, true, true, false, true, true, true, true, false, false, false, false, false] ⟨[(0, .cp [.sl 2 (List.map Qa p0.Pre), .sl 2 (List.map Qa p0.Post), .sl 2 (List.map Qd p0.Code), .sl 2 (List.map Qc p0.Points)]), (2, .ptr 11 0 0), (5, .cp [.sl 2 (List.map Qa p0.Pre), .sl 2 (List.map Qa p0.Post), .sl 2 (List.map Qd p0.Code), .sl 2 (List.map Qc p0.Points)]), (6, .cp [.sl 2 (List.map Qa p0.Pre), .sl 2 (List.map Qa p0.Post), .sl 2 (List.map Qd p0.Code), .sl 2 (List.map Qc p0.Points)]), (7, .cp [.sl 2 (List.map Qa p0.Pre)]), (8, .sl 2 (List.map Qa p0.Pre)), (9, .ow 7693), (10, .cp [.sl 2 (List.map Qa p0.Pre), .sl 2 (List.map Qa p0.Post), .sl 2 (List.map Qd p0.Code), .sl 2 (List.map Qc p0.Points)]), (11, .cp [.sl 2 (List.map Qa p0.Pre), .sl 2 (List.map Qa p0.Post), .sl 2 (List.map Qd p0.Code), .sl 2 (List.map Qc p0.Points)]), (12, .cp [.sl 2 (List.map Qa p0.Post)]), (13, .sl 2 (List.map Qa p0.Post)), (15, .ow 8173), (16, .cp [.sl 2 (List.map Qa p0.Pre), .sl 2 (List.map Qa p0.Post), .sl 2 (List.map Qd p0.Code), .sl 2 (List.map Qc p0.Points)]), (17, .cp [.sl 2 (List.map Qa p0.Pre), .sl 2 (List.map Qa p0.Post), .sl 2 (List.map Qd p0.Code), .sl 2 (List.map Qc p0.Points)]), (18, .cp [.sl 2 (List.map Qd p0.Code)])], [(11, .box [.snil, .snil, .snil, .snil]), (7693, .arr ⟨false, true⟩ 2 184 (List.map Qa r9)), (8173, .arr ⟨false, false⟩ 2 40 (List.map Qd ([] : List Instr)))]⟩ ?_ (fun hS7292_10 => ?_)
  ·refine Qn 14 (by kernel_rfl) rfl rfl rfl rfl rfl (Qg ag24 rfl rfl) ?_
   refine Qz [9, 17] (by kernel_rfl) rfl ?_
   refine ⟨?_, ?_⟩
   ·refine ⟨_, rfl, ?_⟩
    refine Qt [(1000, 8093)] (ACall.F (F := F) (Qp p0.Post r14 hr14)) Try.call104 rfl rfl rfl rfl rfl rfl rfl rfl rfl rfl rfl rfl rfl ?_
    refine Qe ?_
    refine Ql [0, 2, 5, 6, 7, 8, 9, 10, 11, 12, 13, 14, 15, 16, 17, 18, 19] [11, 7693, 8093, 8173] rfl rfl rfl rfl (by rw [hF]; rfl) ?_
    exact hS7292_3
   ·refine ⟨_, rfl, ?_⟩
    refine QJ 8733 z69 rfl rfl rfl rfl rfl rfl rfl ?_
    refine Qe ?_
    refine Ql [0, 2, 3, 5, 6, 7, 8, 9, 10, 11, 12, 13, 15, 16, 17, 18, 19] [11, 7693, 8173, 8733] rfl rfl rfl rfl (by rw [hF]; rfl) ?_
    exact hS7292_9
  refine Qy 5 [true, true, true, true, true, true, true, true, true, false, true, true, true, true, true, false, false, false, false] ⟨[(0, .cp [.sl 2 (List.map Qa p0.Pre), .sl 2 (List.map Qa p0.Post), .sl 2 (List.map Qd p0.Code), .sl 2 (List.map Qc p0.Points)]), (2, .ptr 11 0 0), (5, .cp [.sl 2 (List.map Qa p0.Pre), .sl 2 (List.map Qa p0.Post), .sl 2 (List.map Qd p0.Code), .sl 2 (List.map Qc p0.Points)]), (6, .cp [.sl 2 (List.map Qa p0.Pre), .sl 2 (List.map Qa p0.Post), .sl 2 (List.map Qd p0.Code), .sl 2 (List.map Qc p0.Points)]), (7, .cp [.sl 2 (List.map Qa p0.Pre)]), (8, .sl 2 (List.map Qa p0.Pre)), (9, .ow 7693), (10, .cp [.sl 2 (List.map Qa p0.Pre), .sl 2 (List.map Qa p0.Post), .sl 2 (List.map Qd p0.Code), .sl 2 (List.map Qc p0.Points)]), (11, .cp [.sl 2 (List.map Qa p0.Pre), .sl 2 (List.map Qa p0.Post), .sl 2 (List.map Qd p0.Code), .sl 2 (List.map Qc p0.Points)]), (12, .cp [.sl 2 (List.map Qa p0.Post)]), (13, .sl 2 (List.map Qa p0.Post)), (15, .ow 8173), (16, .cp [.sl 2 (List.map Qa p0.Pre), .sl 2 (List.map Qa p0.Post), .sl 2 (List.map Qd p0.Code), .sl 2 (List.map Qc p0.Points)]), (17, .cp [.sl 2 (List.map Qa p0.Pre), .sl 2 (List.map Qa p0.Post), .sl 2 (List.map Qd p0.Code), .sl 2 (List.map Qc p0.Points)]), (18, .cp [.sl 2 (List.map Qd p0.Code)]), (19, .sl 2 (List.map Qd p0.Code))], [(11, .box [.snil, .snil, .snil, .snil]), (7693, .arr ⟨false, true⟩ 2 184 (List.map Qa r9)), (8173, .arr ⟨false, false⟩ 2 40 (List.map Qd ([] : List Instr)))]⟩ ?_ (fun hS7292_11 => ?_)
  ·refine Qz [9, 17] (by kernel_rfl) rfl ?_
   refine ⟨?_, ?_⟩
   ·refine ⟨_, rfl, ?_⟩
    refine Qt [(1000, 8093)] (ACall.F (F := F) (Qp p0.Post r14 hr14)) Try.call104 rfl rfl rfl rfl rfl rfl rfl rfl rfl rfl rfl rfl rfl ?_
    refine Qe ?_
    refine Ql [0, 2, 5, 6, 7, 8, 9, 10, 11, 12, 13, 14, 15, 16, 17, 18, 19] [11, 7693, 8093, 8173] rfl rfl rfl rfl (by rw [hF]; rfl) ?_
    exact hS7292_3
   ·refine ⟨_, rfl, ?_⟩
    refine QJ 8733 z69 rfl rfl rfl rfl rfl rfl rfl ?_
    refine Qe ?_
    refine Ql [0, 2, 3, 5, 6, 7, 8, 9, 10, 11, 12, 13, 15, 16, 17, 18, 19] [11, 7693, 8173, 8733] rfl rfl rfl rfl (by rw [hF]; rfl) ?_
    exact hS7292_9
  refine Qy 5 [true, true, true, true, true, true, true, true, true, false, false, true, true, true, true, false, false, true, false] ⟨[(0, .cp [.sl 2 (List.map Qa p0.Pre), .sl 2 (List.map Qa p0.Post), .sl 2 (List.map Qd p0.Code), .sl 2 (List.map Qc p0.Points)]), (2, .ptr 11 0 0), (3, .ptr 8733 0 0), (5, .cp [.sl 2 (List.map Qa p0.Pre), .sl 2 (List.map Qa p0.Post), .sl 2 (List.map Qd p0.Code), .sl 2 (List.map Qc p0.Points)]), (6, .cp [.sl 2 (List.map Qa p0.Pre), .sl 2 (List.map Qa p0.Post), .sl 2 (List.map Qd p0.Code), .sl 2 (List.map Qc p0.Points)]), (7, .cp [.sl 2 (List.map Qa p0.Pre)]), (8, .sl 2 (List.map Qa p0.Pre)), (9, .ow 7693), (10, .cp [.sl 2 (List.map Qa p0.Pre), .sl 2 (List.map Qa p0.Post), .sl 2 (List.map Qd p0.Code), .sl 2 (List.map Qc p0.Points)]), (11, .cp [.sl 2 (List.map Qa p0.Pre), .sl 2 (List.map Qa p0.Post), .sl 2 (List.map Qd p0.Code), .sl 2 (List.map Qc p0.Points)]), (12, .cp [.sl 2 (List.map Qa p0.Post)]), (13, .sl 2 (List.map Qa p0.Post)), (16, .cp [.sl 2 (List.map Qa p0.Pre), .sl 2 (List.map Qa p0.Post), .sl 2 (List.map Qd p0.Code), .sl 2 (List.map Qc p0.Points)]), (17, .cp [.sl 2 (List.map Qa p0.Pre), .sl 2 (List.map Qa p0.Post), .sl 2 (List.map Qd p0.Code), .sl 2 (List.map Qc p0.Points)]), (18, .cp [.sl 2 (List.map Qd p0.Code)]), (19, .sl 2 (List.map Qd p0.Code))], [(11, .box [.snil, .snil, .snil, .snil]), (7693, .arr ⟨false, true⟩ 2 184 (List.map Qa r9)), (8733, .box [.snil, .snil, .snil, .snil])]⟩ ?_ (fun hS7292_12 => ?_)
  ·refine Qz [9, 10] (by kernel_rfl) rfl ?_
   refine ⟨?_, ?_⟩
   ·refine ⟨_, rfl, ?_⟩
    refine Qt [(1000, 8093)] (ACall.F (F := F) (Qp p0.Post r14 hr14)) Try.call104 rfl rfl rfl rfl rfl rfl rfl rfl rfl rfl rfl rfl rfl ?_
    refine Qe ?_
    refine Ql [0, 2, 3, 5, 6, 7, 8, 9, 10, 11, 12, 13, 14, 16, 17, 18, 19] [11, 7693, 8093, 8733] rfl rfl rfl rfl (by rw [hF]; rfl) ?_
    exact hS7292_4
   ·refine ⟨_, rfl, ?_⟩
    refine QE 8173 (es := List.map Qd ([] : List Instr)) el24 z40 rfl rfl rfl rfl rfl rfl rfl rfl rfl ?_
    refine Qe ?_
    refine Ql [0, 2, 3, 5, 6, 7, 8, 9, 10, 11, 12, 13, 15, 16, 17, 18, 19] [11, 7693, 8173, 8733] rfl rfl rfl rfl (by rw [hF]; rfl) ?_
    exact hS7292_9
  refine Qy 6 [true, true, true, true, true, true, true, true, true, false, false, true, true, true, true, false, false, false, false] ⟨[(0, .cp [.sl 2 (List.map Qa p0.Pre), .sl 2 (List.map Qa p0.Post), .sl 2 (List.map Qd p0.Code), .sl 2 (List.map Qc p0.Points)]), (2, .ptr 11 0 0), (5, .cp [.sl 2 (List.map Qa p0.Pre), .sl 2 (List.map Qa p0.Post), .sl 2 (List.map Qd p0.Code), .sl 2 (List.map Qc p0.Points)]), (6, .cp [.sl 2 (List.map Qa p0.Pre), .sl 2 (List.map Qa p0.Post), .sl 2 (List.map Qd p0.Code), .sl 2 (List.map Qc p0.Points)]), (7, .cp [.sl 2 (List.map Qa p0.Pre)]), (8, .sl 2 (List.map Qa p0.Pre)), (9, .ow 7693), (10, .cp [.sl 2 (List.map Qa p0.Pre), .sl 2 (List.map Qa p0.Post), .sl 2 (List.map Qd p0.Code), .sl 2 (List.map Qc p0.Points)]), (11, .cp [.sl 2 (List.map Qa p0.Pre), .sl 2 (List.map Qa p0.Post), .sl 2 (List.map Qd p0.Code), .sl 2 (List.map Qc p0.Points)]), (12, .cp [.sl 2 (List.map Qa p0.Post)]), (13, .sl 2 (List.map Qa p0.Post)), (16, .cp [.sl 2 (List.map Qa p0.Pre), .sl 2 (List.map Qa p0.Post), .sl 2 (List.map Qd p0.Code), .sl 2 (List.map Qc p0.Points)]), (17, .cp [.sl 2 (List.map Qa p0.Pre), .sl 2 (List.map Qa p0.Post), .sl 2 (List.map Qd p0.Code), .sl 2 (List.map Qc p0.Points)]), (18, .cp [.sl 2 (List.map Qd p0.Code)]), (19, .sl 2 (List.map Qd p0.Code))], [(11, .box [.snil, .snil, .snil, .snil]), (7693, .arr ⟨false, true⟩ 2 184 (List.map Qa r9))]⟩ ?_ (fun hS7292_13 => ?_)
  ·refine Qz [9, 10, 17] (by kernel_rfl) rfl ?_
   refine ⟨?_, ?_, ?_⟩
   ·refine ⟨_, rfl, ?_⟩
    refine Qt [(1000, 8093)] (ACall.F (F := F) (Qp p0.Post r14 hr14)) Try.call104 rfl rfl rfl rfl rfl rfl rfl rfl rfl rfl rfl rfl rfl ?_
    refine Qe ?_
    refine Ql [0, 2, 5, 6, 7, 8, 9, 10, 11, 12, 13, 14, 16, 17, 18, 19] [11, 7693, 8093] rfl rfl rfl rfl (by rw [hF]; rfl) ?_
    exact hS7292_5
   ·refine ⟨_, rfl, ?_⟩
    refine QE 8173 (es := List.map Qd ([] : List Instr)) el24 z40 rfl rfl rfl rfl rfl rfl rfl rfl rfl ?_
    refine Qe ?_
    refine Ql [0, 2, 5, 6, 7, 8, 9, 10, 11, 12, 13, 15, 16, 17, 18, 19] [11, 7693, 8173] rfl rfl rfl rfl (by rw [hF]; rfl) ?_
    exact hS7292_11
   ·refine ⟨_, rfl, ?_⟩
    refine QJ 8733 z69 rfl rfl rfl rfl rfl rfl rfl ?_
    refine Qe ?_
    refine Ql [0, 2, 3, 5, 6, 7, 8, 9, 10, 11, 12, 13, 16, 17, 18, 19] [11, 7693, 8733] rfl rfl rfl rfl (by rw [hF]; rfl) ?_
    exact hS7292_12
  refine Qy 5 [true, true, true, true, true, true, true, true, true, false, true, true, true, true, false, false, false, true, false] ⟨[(0, .cp [.sl 2 (List.map Qa p0.Pre), .sl 2 (List.map Qa p0.Post), .sl 2 (List.map Qd p0.Code), .sl 2 (List.map Qc p0.Points)]), (2, .ptr 11 0 0), (3, .ptr 8733 0 0), (5, .cp [.sl 2 (List.map Qa p0.Pre), .sl 2 (List.map Qa p0.Post), .sl 2 (List.map Qd p0.Code), .sl 2 (List.map Qc p0.Points)]), (6, .cp [.sl 2 (List.map Qa p0.Pre), .sl 2 (List.map Qa p0.Post), .sl 2 (List.map Qd p0.Code), .sl 2 (List.map Qc p0.Points)]), (7, .cp [.sl 2 (List.map Qa p0.Pre)]), (8, .sl 2 (List.map Qa p0.Pre)), (9, .ow 7693), (10, .cp [.sl 2 (List.map Qa p0.Pre), .sl 2 (List.map Qa p0.Post), .sl 2 (List.map Qd p0.Code), .sl 2 (List.map Qc p0.Points)]), (11, .cp [.sl 2 (List.map Qa p0.Pre), .sl 2 (List.map Qa p0.Post), .sl 2 (List.map Qd p0.Code), .sl 2 (List.map Qc p0.Points)]), (12, .cp [.sl 2 (List.map Qa p0.Post)]), (13, .sl 2 (List.map Qa p0.Post)), (15, .ow 8173), (16, .cp [.sl 2 (List.map Qa p0.Pre), .sl 2 (List.map Qa p0.Post), .sl 2 (List.map Qd p0.Code), .sl 2 (List.map Qc p0.Points)]), (17, .cp [.sl 2 (List.map Qa p0.Pre), .sl 2 (List.map Qa p0.Post), .sl 2 (List.map Qd p0.Code), .sl 2 (List.map Qc p0.Points)]), (18, .cp [.sl 2 (List.map Qd p0.Code)])], [(11, .box [.snil, .snil, .snil, .snil]), (7693, .arr ⟨false, true⟩ 2 184 (List.map Qa r9)), (8173, .arr ⟨false, false⟩ 2 40 (List.map Qd ([] : List Instr))), (8733, .box [.snil, .snil, .snil, .snil])]⟩ ?_ (fun hS7292_14 => ?_)
  ·refine Qn 14 (by kernel_rfl) rfl rfl rfl rfl rfl (Qg ag24 rfl rfl) ?_
   refine Qs 9 (by kernel_rfl) rfl ?_
   refine Qt [(1000, 8093)] (ACall.F (F := F) (Qp p0.Post r14 hr14)) Try.call104 rfl rfl rfl rfl rfl rfl rfl rfl rfl rfl rfl rfl rfl ?_
   refine Qe ?_
   refine Qs 15 (by kernel_rfl) rfl ?_
   refine Xn (f := Qd) (a := ([] : List Instr)) (b := p0.Code) el24 z40 rfl rfl rfl rfl rfl rfl rfl (Q9 hq20) rfl rfl rfl rfl rfl ?_
   refine Qe ?_
   refine Qn 16 (by kernel_rfl) rfl rfl rfl rfl rfl (Q3 pl69 z69 rfl rfl rfl rfl rfl) ?_
   refine Qs 18 (by kernel_rfl) rfl ?_
   refine Qo sz69 rfl rfl rfl rfl rfl rfl rfl rfl rfl ?_
   refine Qe ?_
   refine QX (by kernel_rfl) ?_
   refine Qm [0, 2, 3] [11, 7693, 8093, 8173, 8733] rfl rfl rfl rfl (by rw [hF]; rfl) ?_
   refine T_ren [(11, 11), (7693, 412), (8093, 812), (8173, 892), (8733, 1452)] rfl rfl rfl (by rw [hF]; rfl) ?_
   exact hj0 (r9, r14) hm
  refine Qy 6 [true, true, true, true, true, true, true, true, true, false, false, true, true, true, false, false, false, true, false] ⟨[(0, .cp [.sl 2 (List.map Qa p0.Pre), .sl 2 (List.map Qa p0.Post), .sl 2 (List.map Qd p0.Code), .sl 2 (List.map Qc p0.Points)]), (2, .ptr 11 0 0), (3, .ptr 8733 0 0), (5, .cp [.sl 2 (List.map Qa p0.Pre), .sl 2 (List.map Qa p0.Post), .sl 2 (List.map Qd p0.Code), .sl 2 (List.map Qc p0.Points)]), (6, .cp [.sl 2 (List.map Qa p0.Pre), .sl 2 (List.map Qa p0.Post), .sl 2 (List.map Qd p0.Code), .sl 2 (List.map Qc p0.Points)]), (7, .cp [.sl 2 (List.map Qa p0.Pre)]), (8, .sl 2 (List.map Qa p0.Pre)), (9, .ow 7693), (10, .cp [.sl 2 (List.map Qa p0.Pre), .sl 2 (List.map Qa p0.Post), .sl 2 (List.map Qd p0.Code), .sl 2 (List.map Qc p0.Points)]), (11, .cp [.sl 2 (List.map Qa p0.Pre), .sl 2 (List.map Qa p0.Post), .sl 2 (List.map Qd p0.Code), .sl 2 (List.map Qc p0.Points)]), (12, .cp [.sl 2 (List.map Qa p0.Post)]), (13, .sl 2 (List.map Qa p0.Post)), (16, .cp [.sl 2 (List.map Qa p0.Pre), .sl 2 (List.map Qa p0.Post), .sl 2 (List.map Qd p0.Code), .sl 2 (List.map Qc p0.Points)]), (17, .cp [.sl 2 (List.map Qa p0.Pre), .sl 2 (List.map Qa p0.Post), .sl 2 (List.map Qd p0.Code), .sl 2 (List.map Qc p0.Points)]), (18, .cp [.sl 2 (List.map Qd p0.Code)])], [(11, .box [.snil, .snil, .snil, .snil]), (7693, .arr ⟨false, true⟩ 2 184 (List.map Qa r9)), (8733, .box [.snil, .snil, .snil, .snil])]⟩ ?_ (fun hS7292_15 => ?_)
  ·refine Qz [9, 10, 14] (by kernel_rfl) rfl ?_
   refine ⟨?_, ?_, ?_⟩
   ·refine ⟨_, rfl, ?_⟩
    refine Qt [(1000, 8093)] (ACall.F (F := F) (Qp p0.Post r14 hr14)) Try.call104 rfl rfl rfl rfl rfl rfl rfl rfl rfl rfl rfl rfl rfl ?_
    refine Qe ?_
    refine Ql [0, 2, 3, 5, 6, 7, 8, 9, 10, 11, 12, 13, 14, 16, 17, 18] [11, 7693, 8093, 8733] rfl rfl rfl rfl (by rw [hF]; rfl) ?_
    exact hS7292_7
   ·refine ⟨_, rfl, ?_⟩
    refine QE 8173 (es := List.map Qd ([] : List Instr)) el24 z40 rfl rfl rfl rfl rfl rfl rfl rfl rfl ?_
    refine Qe ?_
    refine Ql [0, 2, 3, 5, 6, 7, 8, 9, 10, 11, 12, 13, 15, 16, 17, 18] [11, 7693, 8173, 8733] rfl rfl rfl rfl (by rw [hF]; rfl) ?_
    exact hS7292_14
   ·refine ⟨_, rfl, ?_⟩
    refine Qb rfl rfl rfl rfl (Qg ag24 rfl rfl) ?_
    refine Qe ?_
    refine Ql [0, 2, 3, 5, 6, 7, 8, 9, 10, 11, 12, 13, 16, 17, 18, 19] [11, 7693, 8733] rfl rfl rfl rfl (by rw [hF]; rfl) ?_
    exact hS7292_12
  refine Qy 7 [true, true, true, true, true, true, true, true, true, false, false, true, true, true, false, false, false, false, false] ⟨[(0, .cp [.sl 2 (List.map Qa p0.Pre), .sl 2 (List.map Qa p0.Post), .sl 2 (List.map Qd p0.Code), .sl 2 (List.map Qc p0.Points)]), (2, .ptr 11 0 0), (5, .cp [.sl 2 (List.map Qa p0.Pre), .sl 2 (List.map Qa p0.Post), .sl 2 (List.map Qd p0.Code), .sl 2 (List.map Qc p0.Points)]), (6, .cp [.sl 2 (List.map Qa p0.Pre), .sl 2 (List.map Qa p0.Post), .sl 2 (List.map Qd p0.Code), .sl 2 (List.map Qc p0.Points)]), (7, .cp [.sl 2 (List.map Qa p0.Pre)]), (8, .sl 2 (List.map Qa p0.Pre)), (9, .ow 7693), (10, .cp [.sl 2 (List.map Qa p0.Pre), .sl 2 (List.map Qa p0.Post), .sl 2 (List.map Qd p0.Code), .sl 2 (List.map Qc p0.Points)]), (11, .cp [.sl 2 (List.map Qa p0.Pre), .sl 2 (List.map Qa p0.Post), .sl 2 (List.map Qd p0.Code), .sl 2 (List.map Qc p0.Points)]), (12, .cp [.sl 2 (List.map Qa p0.Post)]), (13, .sl 2 (List.map Qa p0.Post)), (16, .cp [.sl 2 (List.map Qa p0.Pre), .sl 2 (List.map Qa p0.Post), .sl 2 (List.map Qd p0.Code), .sl 2 (List.map Qc p0.Points)]), (17, .cp [.sl 2 (List.map Qa p0.Pre), .sl 2 (List.map Qa p0.Post), .sl 2 (List.map Qd p0.Code), .sl 2 (List.map Qc p0.Points)]), (18, .cp [.sl 2 (List.map Qd p0.Code)])], [(11, .box [.snil, .snil, .snil, .snil]), (7693, .arr ⟨false, true⟩ 2 184 (List.map Qa r9))]⟩ ?_ (fun hS7292_16 => ?_)
  ·refine Qz [9, 10, 14, 17] (by kernel_rfl) rfl ?_
   refine ⟨?_, ?_, ?_, ?_⟩
   ·refine ⟨_, rfl, ?_⟩
    refine Qt [(1000, 8093)] (ACall.F (F := F) (Qp p0.Post r14 hr14)) Try.call104 rfl rfl rfl rfl rfl rfl rfl rfl rfl rfl rfl rfl rfl ?_
    refine Qe ?_
    refine Ql [0, 2, 5, 6, 7, 8, 9, 10, 11, 12, 13, 14, 16, 17, 18] [11, 7693, 8093] rfl rfl rfl rfl (by rw [hF]; rfl) ?_
    exact hS7292_8
   ·refine ⟨_, rfl, ?_⟩
    refine QE 8173 (es := List.map Qd ([] : List Instr)) el24 z40 rfl rfl rfl rfl rfl rfl rfl rfl rfl ?_
    refine Qe ?_
    refine Ql [0, 2, 5, 6, 7, 8, 9, 10, 11, 12, 13, 15, 16, 17, 18] [11, 7693, 8173] rfl rfl rfl rfl (by rw [hF]; rfl) ?_
    exact hS7292_10
   ·refine ⟨_, rfl, ?_⟩
    refine Qb rfl rfl rfl rfl (Qg ag24 rfl rfl) ?_
    refine Qe ?_
    refine Ql [0, 2, 5, 6, 7, 8, 9, 10, 11, 12, 13, 16, 17, 18, 19] [11, 7693] rfl rfl rfl rfl (by rw [hF]; rfl) ?_
    exact hS7292_13
   ·refine ⟨_, rfl, ?_⟩
    refine QJ 8733 z69 rfl rfl rfl rfl rfl rfl rfl ?_
    refine Qe ?_
    refine Ql [0, 2, 3, 5, 6, 7, 8, 9, 10, 11, 12, 13, 16, 17, 18] [11, 7693, 8733] rfl rfl rfl rfl (by rw [hF]; rfl) ?_
    exact hS7292_15
  refine Qy 5 [true, true, true, true, true, true, true, true, false, false, true, true, true, true, true, false, false, true, false] ⟨[(0, .cp [.sl 2 (List.map Qa p0.Pre), .sl 2 (List.map Qa p0.Post), .sl 2 (List.map Qd p0.Code), .sl 2 (List.map Qc p0.Points)]), (2, .ptr 11 0 0), (3, .ptr 8733 0 0), (5, .cp [.sl 2 (List.map Qa p0.Pre), .sl 2 (List.map Qa p0.Post), .sl 2 (List.map Qd p0.Code), .sl 2 (List.map Qc p0.Points)]), (6, .cp [.sl 2 (List.map Qa p0.Pre), .sl 2 (List.map Qa p0.Post), .sl 2 (List.map Qd p0.Code), .sl 2 (List.map Qc p0.Points)]), (7, .cp [.sl 2 (List.map Qa p0.Pre)]), (8, .sl 2 (List.map Qa p0.Pre)), (9, .ow 7693), (10, .cp [.sl 2 (List.map Qa p0.Pre), .sl 2 (List.map Qa p0.Post), .sl 2 (List.map Qd p0.Code), .sl 2 (List.map Qc p0.Points)]), (11, .cp [.sl 2 (List.map Qa p0.Pre), .sl 2 (List.map Qa p0.Post), .sl 2 (List.map Qd p0.Code), .sl 2 (List.map Qc p0.Points)]), (12, .cp [.sl 2 (List.map Qa p0.Post)]), (15, .ow 8173), (16, .cp [.sl 2 (List.map Qa p0.Pre), .sl 2 (List.map Qa p0.Post), .sl 2 (List.map Qd p0.Code), .sl 2 (List.map Qc p0.Points)]), (17, .cp [.sl 2 (List.map Qa p0.Pre), .sl 2 (List.map Qa p0.Post), .sl 2 (List.map Qd p0.Code), .sl 2 (List.map Qc p0.Points)]), (18, .cp [.sl 2 (List.map Qd p0.Code)]), (19, .sl 2 (List.map Qd p0.Code))], [(11, .box [.snil, .snil, .snil, .snil]), (7693, .arr ⟨false, true⟩ 2 184 (List.map Qa r9)), (8173, .arr ⟨false, false⟩ 2 40 (List.map Qd ([] : List Instr))), (8733, .box [.snil, .snil, .snil, .snil])]⟩ ?_ (fun hS7292_17 => ?_)
  ·refine Qs 8 (by kernel_rfl) rfl ?_
   refine Qb rfl rfl rfl rfl (Qg ag66 rfl rfl) ?_
   refine Qe ?_
   refine Qs 9 (by kernel_rfl) rfl ?_
   refine Qt [(1000, 8093)] (ACall.F (F := F) (Qp p0.Post r14 hr14)) Try.call104 rfl rfl rfl rfl rfl rfl rfl rfl rfl rfl rfl rfl rfl ?_
   refine Qe ?_
   refine Qs 15 (by kernel_rfl) rfl ?_
   refine Xn (f := Qd) (a := ([] : List Instr)) (b := p0.Code) el24 z40 rfl rfl rfl rfl rfl rfl rfl (Q9 hq20) rfl rfl rfl rfl rfl ?_
   refine Qe ?_
   refine Qn 16 (by kernel_rfl) rfl rfl rfl rfl rfl (Q3 pl69 z69 rfl rfl rfl rfl rfl) ?_
   refine Qs 18 (by kernel_rfl) rfl ?_
   refine Qo sz69 rfl rfl rfl rfl rfl rfl rfl rfl rfl ?_
   refine Qe ?_
   refine QX (by kernel_rfl) ?_
   refine Qm [0, 2, 3] [11, 7693, 8093, 8173, 8733] rfl rfl rfl rfl (by rw [hF]; rfl) ?_
   refine T_ren [(11, 11), (7693, 412), (8093, 812), (8173, 892), (8733, 1452)] rfl rfl rfl (by rw [hF]; rfl) ?_
   exact hj0 (r9, r14) hm
  refine Qy 7 [true, true, true, true, true, true, true, true, false, false, true, true, true, true, false, false, false, false, false] ⟨[(0, .cp [.sl 2 (List.map Qa p0.Pre), .sl 2 (List.map Qa p0.Post), .sl 2 (List.map Qd p0.Code), .sl 2 (List.map Qc p0.Points)]), (2, .ptr 11 0 0), (5, .cp [.sl 2 (List.map Qa p0.Pre), .sl 2 (List.map Qa p0.Post), .sl 2 (List.map Qd p0.Code), .sl 2 (List.map Qc p0.Points)]), (6, .cp [.sl 2 (List.map Qa p0.Pre), .sl 2 (List.map Qa p0.Post), .sl 2 (List.map Qd p0.Code), .sl 2 (List.map Qc p0.Points)]), (7, .cp [.sl 2 (List.map Qa p0.Pre)]), (8, .sl 2 (List.map Qa p0.Pre)), (9, .ow 7693), (10, .cp [.sl 2 (List.map Qa p0.Pre), .sl 2 (List.map Qa p0.Post), .sl 2 (List.map Qd p0.Code), .sl 2 (List.map Qc p0.Points)]), (11, .cp [.sl 2 (List.map Qa p0.Pre), .sl 2 (List.map Qa p0.Post), .sl 2 (List.map Qd p0.Code), .sl 2 (List.map Qc p0.Points)]), (12, .cp [.sl 2 (List.map Qa p0.Post)]), (15, .ow 8173), (16, .cp [.sl 2 (List.map Qa p0.Pre), .sl 2 (List.map Qa p0.Post), .sl 2 (List.map Qd p0.Code), .sl 2 (List.map Qc p0.Points)]), (17, .cp [.sl 2 (List.map Qa p0.Pre), .sl 2 (List.map Qa p0.Post), .sl 2 (List.map Qd p0.Code), .sl 2 (List.map Qc p0.Points)]), (18, .cp [.sl 2 (List.map Qd p0.Code)])], [(11, .box [.snil, .snil, .snil, .snil]), (7693, .arr ⟨false, true⟩ 2 184 (List.map Qa r9)), (8173, .arr ⟨false, false⟩ 2 40 (List.map Qd ([] : List Instr)))]⟩ ?_ (fun hS7292_18 => ?_)
  ·refine Qn 14 (by kernel_rfl) rfl rfl rfl rfl rfl (Qg ag24 rfl rfl) ?_
   refine Qz [8, 17] (by kernel_rfl) rfl ?_
   refine ⟨?_, ?_⟩
   ·refine ⟨_, rfl, ?_⟩
    refine Qb rfl rfl rfl rfl (Qg ag66 rfl rfl) ?_
    refine Qe ?_
    refine Ql [0, 2, 5, 6, 7, 8, 9, 10, 11, 12, 13, 15, 16, 17, 18, 19] [11, 7693, 8173] rfl rfl rfl rfl (by rw [hF]; rfl) ?_
    exact hS7292_11
   ·refine ⟨_, rfl, ?_⟩
    refine QJ 8733 z69 rfl rfl rfl rfl rfl rfl rfl ?_
    refine Qe ?_
    refine Ql [0, 2, 3, 5, 6, 7, 8, 9, 10, 11, 12, 15, 16, 17, 18, 19] [11, 7693, 8173, 8733] rfl rfl rfl rfl (by rw [hF]; rfl) ?_
    exact hS7292_17
  refine Qy 6 [true, true, true, true, true, true, true, true, false, false, true, true, true, true, true, false, false, false, false] ⟨[(0, .cp [.sl 2 (List.map Qa p0.Pre), .sl 2 (List.map Qa p0.Post), .sl 2 (List.map Qd p0.Code), .sl 2 (List.map Qc p0.Points)]), (2, .ptr 11 0 0), (5, .cp [.sl 2 (List.map Qa p0.Pre), .sl 2 (List.map Qa p0.Post), .sl 2 (List.map Qd p0.Code), .sl 2 (List.map Qc p0.Points)]), (6, .cp [.sl 2 (List.map Qa p0.Pre), .sl 2 (List.map Qa p0.Post), .sl 2 (List.map Qd p0.Code), .sl 2 (List.map Qc p0.Points)]), (7, .cp [.sl 2 (List.map Qa p0.Pre)]), (8, .sl 2 (List.map Qa p0.Pre)), (9, .ow 7693), (10, .cp [.sl 2 (List.map Qa p0.Pre), .sl 2 (List.map Qa p0.Post), .sl 2 (List.map Qd p0.Code), .sl 2 (List.map Qc p0.Points)]), (11, .cp [.sl 2 (List.map Qa p0.Pre), .sl 2 (List.map Qa p0.Post), .sl 2 (List.map Qd p0.Code), .sl 2 (List.map Qc p0.Points)]), (12, .cp [.sl 2 (List.map Qa p0.Post)]), (15, .ow 8173), (16, .cp [.sl 2 (List.map Qa p0.Pre), .sl 2 (List.map Qa p0.Post), .sl 2 (List.map Qd p0.Code), .sl 2 (List.map Qc p0.Points)]), (17, .cp [.sl 2 (List.map Qa p0.Pre), .sl 2 (List.map Qa p0.Post), .sl 2 (List.map Qd p0.Code), .sl 2 (List.map Qc p0.Points)]), (18, .cp [.sl 2 (List.map Qd p0.Code)]), (19, .sl 2 (List.map Qd p0.Code))], [(11, .box [.snil, .snil, .snil, .snil]), (7693, .arr ⟨false, true⟩ 2 184 (List.map Qa r9)), (8173, .arr ⟨false, false⟩ 2 40 (List.map Qd ([] : List Instr)))]⟩ ?_ (fun hS7292_19 => ?_)
  ·refine Qz [8, 17] (by kernel_rfl) rfl ?_
   refine ⟨?_, ?_⟩
   ·refine ⟨_, rfl, ?_⟩
    refine Qb rfl rfl rfl rfl (Qg ag66 rfl rfl) ?_
    refine Qe ?_
    refine Ql [0, 2, 5, 6, 7, 8, 9, 10, 11, 12, 13, 15, 16, 17, 18, 19] [11, 7693, 8173] rfl rfl rfl rfl (by rw [hF]; rfl) ?_
    exact hS7292_11
   ·refine ⟨_, rfl, ?_⟩
    refine QJ 8733 z69 rfl rfl rfl rfl rfl rfl rfl ?_
    refine Qe ?_
    refine Ql [0, 2, 3, 5, 6, 7, 8, 9, 10, 11, 12, 15, 16, 17, 18, 19] [11, 7693, 8173, 8733] rfl rfl rfl rfl (by rw [hF]; rfl) ?_
    exact hS7292_17
  refine Qy 6 [true, true, true, true, true, true, true, true, false, false, false, true, true, true, true, false, false, true, false] ⟨[(0, .cp [.sl 2 (List.map Qa p0.Pre), .sl 2 (List.map Qa p0.Post), .sl 2 (List.map Qd p0.Code), .sl 2 (List.map Qc p0.Points)]), (2, .ptr 11 0 0), (3, .ptr 8733 0 0), (5, .cp [.sl 2 (List.map Qa p0.Pre), .sl 2 (List.map Qa p0.Post), .sl 2 (List.map Qd p0.Code), .sl 2 (List.map Qc p0.Points)]), (6, .cp [.sl 2 (List.map Qa p0.Pre), .sl 2 (List.map Qa p0.Post), .sl 2 (List.map Qd p0.Code), .sl 2 (List.map Qc p0.Points)]), (7, .cp [.sl 2 (List.map Qa p0.Pre)]), (8, .sl 2 (List.map Qa p0.Pre)), (9, .ow 7693), (10, .cp [.sl 2 (List.map Qa p0.Pre), .sl 2 (List.map Qa p0.Post), .sl 2 (List.map Qd p0.Code), .sl 2 (List.map Qc p0.Points)]), (11, .cp [.sl 2 (List.map Qa p0.Pre), .sl 2 (List.map Qa p0.Post), .sl 2 (List.map Qd p0.Code), .sl 2 (List.map Qc p0.Points)]), (12, .cp [.sl 2 (List.map Qa p0.Post)]), (16, .cp [.sl 2 (List.map Qa p0.Pre), .sl 2 (List.map Qa p0.Post), .sl 2 (List.map Qd p0.Code), .sl 2 (List.map Qc p0.Points)]), (17, .cp [.sl 2 (List.map Qa p0.Pre), .sl 2 (List.map Qa p0.Post), .sl 2 (List.map Qd p0.Code), .sl 2 (List.map Qc p0.Points)]), (18, .cp [.sl 2 (List.map Qd p0.Code)]), (19, .sl 2 (List.map Qd p0.Code))], [(11, .box [.snil, .snil, .snil, .snil]), (7693, .arr ⟨false, true⟩ 2 184 (List.map Qa r9)), (8733, .box [.snil, .snil, .snil, .snil])]⟩ ?_ (fun hS7292_20 => ?_)
  ·refine Qz [8, 10] (by kernel_rfl) rfl ?_
   refine ⟨?_, ?_⟩
   ·refine ⟨_, rfl, ?_⟩
    refine Qb rfl rfl rfl rfl (Qg ag66 rfl rfl) ?_
    refine Qe ?_
    refine Ql [0, 2, 3, 5, 6, 7, 8, 9, 10, 11, 12, 13, 16, 17, 18, 19] [11, 7693, 8733] rfl rfl rfl rfl (by rw [hF]; rfl) ?_
    exact hS7292_12
   ·refine ⟨_, rfl, ?_⟩
    refine QE 8173 (es := List.map Qd ([] : List Instr)) el24 z40 rfl rfl rfl rfl rfl rfl rfl rfl rfl ?_
    refine Qe ?_
    refine Ql [0, 2, 3, 5, 6, 7, 8, 9, 10, 11, 12, 15, 16, 17, 18, 19] [11, 7693, 8173, 8733] rfl rfl rfl rfl (by rw [hF]; rfl) ?_
    exact hS7292_17
  refine Qy 7 [true, true, true, true, true, true, true, true, false, false, false, true, true, true, true, false, false, false, false] ⟨[(0, .cp [.sl 2 (List.map Qa p0.Pre), .sl 2 (List.map Qa p0.Post), .sl 2 (List.map Qd p0.Code), .sl 2 (List.map Qc p0.Points)]), (2, .ptr 11 0 0), (5, .cp [.sl 2 (List.map Qa p0.Pre), .sl 2 (List.map Qa p0.Post), .sl 2 (List.map Qd p0.Code), .sl 2 (List.map Qc p0.Points)]), (6, .cp [.sl 2 (List.map Qa p0.Pre), .sl 2 (List.map Qa p0.Post), .sl 2 (List.map Qd p0.Code), .sl 2 (List.map Qc p0.Points)]), (7, .cp [.sl 2 (List.map Qa p0.Pre)]), (8, .sl 2 (List.map Qa p0.Pre)), (9, .ow 7693), (10, .cp [.sl 2 (List.map Qa p0.Pre), .sl 2 (List.map Qa p0.Post), .sl 2 (List.map Qd p0.Code), .sl 2 (List.map Qc p0.Points)]), (11, .cp [.sl 2 (List.map Qa p0.Pre), .sl 2 (List.map Qa p0.Post), .sl 2 (List.map Qd p0.Code), .sl 2 (List.map Qc p0.Points)]), (12, .cp [.sl 2 (List.map Qa p0.Post)]), (16, .cp [.sl 2 (List.map Qa p0.Pre), .sl 2 (List.map Qa p0.Post), .sl 2 (List.map Qd p0.Code), .sl 2 (List.map Qc p0.Points)]), (17, .cp [.sl 2 (List.map Qa p0.Pre), .sl 2 (List.map Qa p0.Post), .sl 2 (List.map Qd p0.Code), .sl 2 (List.map Qc p0.Points)]), (18, .cp [.sl 2 (List.map Qd p0.Code)]), (19, .sl 2 (List.map Qd p0.Code))], [(11, .box [.snil, .snil, .snil, .snil]), (7693, .arr ⟨false, true⟩ 2 184 (List.map Qa r9))]⟩ ?_ (fun hS7292_21 => ?_)
  ·refine Qz [8, 10, 17] (by kernel_rfl) rfl ?_
   refine ⟨?_, ?_, ?_⟩
   ·refine ⟨_, rfl, ?_⟩
    refine Qb rfl rfl rfl rfl (Qg ag66 rfl rfl) ?_
    refine Qe ?_
    refine Ql [0, 2, 5, 6, 7, 8, 9, 10, 11, 12, 13, 16, 17, 18, 19] [11, 7693] rfl rfl rfl rfl (by rw [hF]; rfl) ?_
    exact hS7292_13
   ·refine ⟨_, rfl, ?_⟩
    refine QE 8173 (es := List.map Qd ([] : List Instr)) el24 z40 rfl rfl rfl rfl rfl rfl rfl rfl rfl ?_
    refine Qe ?_
    refine Ql [0, 2, 5, 6, 7, 8, 9, 10, 11, 12, 15, 16, 17, 18, 19] [11, 7693, 8173] rfl rfl rfl rfl (by rw [hF]; rfl) ?_
    exact hS7292_19
   ·refine ⟨_, rfl, ?_⟩
    refine QJ 8733 z69 rfl rfl rfl rfl rfl rfl rfl ?_
    refine Qe ?_
    refine Ql [0, 2, 3, 5, 6, 7, 8, 9, 10, 11, 12, 16, 17, 18, 19] [11, 7693, 8733] rfl rfl rfl rfl (by rw [hF]; rfl) ?_
    exact hS7292_20
  refine Qy 6 [true, true, true, true, true, true, true, true, false, false, true, true, true, true, false, false, false, true, false] ⟨[(0, .cp [.sl 2 (List.map Qa p0.Pre), .sl 2 (List.map Qa p0.Post), .sl 2 (List.map Qd p0.Code), .sl 2 (List.map Qc p0.Points)]), (2, .ptr 11 0 0), (3, .ptr 8733 0 0), (5, .cp [.sl 2 (List.map Qa p0.Pre), .sl 2 (List.map Qa p0.Post), .sl 2 (List.map Qd p0.Code), .sl 2 (List.map Qc p0.Points)]), (6, .cp [.sl 2 (List.map Qa p0.Pre), .sl 2 (List.map Qa p0.Post), .sl 2 (List.map Qd p0.Code), .sl 2 (List.map Qc p0.Points)]), (7, .cp [.sl 2 (List.map Qa p0.Pre)]), (8, .sl 2 (List.map Qa p0.Pre)), (9, .ow 7693), (10, .cp [.sl 2 (List.map Qa p0.Pre), .sl 2 (List.map Qa p0.Post), .sl 2 (List.map Qd p0.Code), .sl 2 (List.map Qc p0.Points)]), (11, .cp [.sl 2 (List.map Qa p0.Pre), .sl 2 (List.map Qa p0.Post), .sl 2 (List.map Qd p0.Code), .sl 2 (List.map Qc p0.Points)]), (12, .cp [.sl 2 (List.map Qa p0.Post)]), (15, .ow 8173), (16, .cp [.sl 2 (List.map Qa p0.Pre), .sl 2 (List.map Qa p0.Post), .sl 2 (List.map Qd p0.Code), .sl 2 (List.map Qc p0.Points)]), (17, .cp [.sl 2 (List.map Qa p0.Pre), .sl 2 (List.map Qa p0.Post), .sl 2 (List.map Qd p0.Code), .sl 2 (List.map Qc p0.Points)]), (18, .cp [.sl 2 (List.map Qd p0.Code)])], [(11, .box [.snil, .snil, .snil, .snil]), (7693, .arr ⟨false, true⟩ 2 184 (List.map Qa r9)), (8173, .arr ⟨false, false⟩ 2 40 (List.map Qd ([] : List Instr))), (8733, .box [.snil, .snil, .snil, .snil])]⟩ ?_ (fun hS7292_22 => ?_)
  ·refine Qn 14 (by kernel_rfl) rfl rfl rfl rfl rfl (Qg ag24 rfl rfl) ?_
   refine Qs 8 (by kernel_rfl) rfl ?_
   refine Qb rfl rfl rfl rfl (Qg ag66 rfl rfl) ?_
   refine Qe ?_
   refine Qs 9 (by kernel_rfl) rfl ?_
   refine Qt [(1000, 8093)] (ACall.F (F := F) (Qp p0.Post r14 hr14)) Try.call104 rfl rfl rfl rfl rfl rfl rfl rfl rfl rfl rfl rfl rfl ?_
   refine Qe ?_
   refine Qs 15 (by kernel_rfl) rfl ?_
   refine Xn (f := Qd) (a := ([] : List Instr)) (b := p0.Code) el24 z40 rfl rfl rfl rfl rfl rfl rfl (Q9 hq20) rfl rfl rfl rfl rfl ?_
   refine Qe ?_
   refine Qn 16 (by kernel_rfl) rfl rfl rfl rfl rfl (Q3 pl69 z69 rfl rfl rfl rfl rfl) ?_
   refine Qs 18 (by kernel_rfl) rfl ?_
   refine Qo sz69 rfl rfl rfl rfl rfl rfl rfl rfl rfl ?_
   refine Qe ?_
   refine QX (by kernel_rfl) ?_
   refine Qm [0, 2, 3] [11, 7693, 8093, 8173, 8733] rfl rfl rfl rfl (by rw [hF]; rfl) ?_
   refine T_ren [(11, 11), (7693, 412), (8093, 812), (8173, 892), (8733, 1452)] rfl rfl rfl (by rw [hF]; rfl) ?_
   exact hj0 (r9, r14) hm
  refine Qy 7 [true, true, true, true, true, true, true, true, false, false, false, true, true, true, false, false, false, true, false] ⟨[(0, .cp [.sl 2 (List.map Qa p0.Pre), .sl 2 (List.map Qa p0.Post), .sl 2 (List.map Qd p0.Code), .sl 2 (List.map Qc p0.Points)]), (2, .ptr 11 0 0), (3, .ptr 8733 0 0), (5, .cp [.sl 2 (List.map Qa p0.Pre), .sl 2 (List.map Qa p0.Post), .sl 2 (List.map Qd p0.Code), .sl 2 (List.map Qc p0.Points)]), (6, .cp [.sl 2 (List.map Qa p0.Pre), .sl 2 (List.map Qa p0.Post), .sl 2 (List.map Qd p0.Code), .sl 2 (List.map Qc p0.Points)]), (7, .cp [.sl 2 (List.map Qa p0.Pre)]), (8, .sl 2 (List.map Qa p0.Pre)), (9, .ow 7693), (10, .cp [.sl 2 (List.map Qa p0.Pre), .sl 2 (List.map Qa p0.Post), .sl 2 (List.map Qd p0.Code), .sl 2 (List.map Qc p0.Points)]), (11, .cp [.sl 2 (List.map Qa p0.Pre), .sl 2 (List.map Qa p0.Post), .sl 2 (List.map Qd p0.Code), .sl 2 (List.map Qc p0.Points)]), (12, .cp [.sl 2 (List.map Qa p0.Post)]), (16, .cp [.sl 2 (List.map Qa p0.Pre), .sl 2 (List.map Qa p0.Post), .sl 2 (List.map Qd p0.Code), .sl 2 (List.map Qc p0.Points)]), (17, .cp [.sl 2 (List.map Qa p0.Pre), .sl 2 (List.map Qa p0.Post), .sl 2 (List.map Qd p0.Code), .sl 2 (List.map Qc p0.Points)]), (18, .cp [.sl 2 (List.map Qd p0.Code)])], [(11, .box [.snil, .snil, .snil, .snil]), (7693, .arr ⟨false, true⟩ 2 184 (List.map Qa r9)), (8733, .box [.snil, .snil, .snil, .snil])]⟩ ?_ (fun hS7292_23 => ?_)
  ·refine Qz [8, 10, 14] (by kernel_rfl) rfl ?_
   refine ⟨?_, ?_, ?_⟩
   ·refine ⟨_, rfl, ?_⟩
    refine Qb rfl rfl rfl rfl (Qg ag66 rfl rfl) ?_
    refine Qe ?_
    refine Ql [0, 2, 3, 5, 6, 7, 8, 9, 10, 11, 12, 13, 16, 17, 18] [11, 7693, 8733] rfl rfl rfl rfl (by rw [hF]; rfl) ?_
    exact hS7292_15
   ·refine ⟨_, rfl, ?_⟩
    refine QE 8173 (es := List.map Qd ([] : List Instr)) el24 z40 rfl rfl rfl rfl rfl rfl rfl rfl rfl ?_
    refine Qe ?_
    refine Ql [0, 2, 3, 5, 6, 7, 8, 9, 10, 11, 12, 15, 16, 17, 18] [11, 7693, 8173, 8733] rfl rfl rfl rfl (by rw [hF]; rfl) ?_
    exact hS7292_22
   ·refine ⟨_, rfl, ?_⟩
    refine Qb rfl rfl rfl rfl (Qg ag24 rfl rfl) ?_
    refine Qe ?_
    refine Ql [0, 2, 3, 5, 6, 7, 8, 9, 10, 11, 12, 16, 17, 18, 19] [11, 7693, 8733] rfl rfl rfl rfl (by rw [hF]; rfl) ?_
    exact hS7292_20
  refine Qy 8 [true, true, true, true, true, true, true, true, false, false, false, true, true, true, false, false, false, false, false] ⟨[(0, .cp [.sl 2 (List.map Qa p0.Pre), .sl 2 (List.map Qa p0.Post), .sl 2 (List.map Qd p0.Code), .sl 2 (List.map Qc p0.Points)]), (2, .ptr 11 0 0), (5, .cp [.sl 2 (List.map Qa p0.Pre), .sl 2 (List.map Qa p0.Post), .sl 2 (List.map Qd p0.Code), .sl 2 (List.map Qc p0.Points)]), (6, .cp [.sl 2 (List.map Qa p0.Pre), .sl 2 (List.map Qa p0.Post), .sl 2 (List.map Qd p0.Code), .sl 2 (List.map Qc p0.Points)]), (7, .cp [.sl 2 (List.map Qa p0.Pre)]), (8, .sl 2 (List.map Qa p0.Pre)), (9, .ow 7693), (10, .cp [.sl 2 (List.map Qa p0.Pre), .sl 2 (List.map Qa p0.Post), .sl 2 (List.map Qd p0.Code), .sl 2 (List.map Qc p0.Points)]), (11, .cp [.sl 2 (List.map Qa p0.Pre), .sl 2 (List.map Qa p0.Post), .sl 2 (List.map Qd p0.Code), .sl 2 (List.map Qc p0.Points)]), (12, .cp [.sl 2 (List.map Qa p0.Post)]), (16, .cp [.sl 2 (List.map Qa p0.Pre), .sl 2 (List.map Qa p0.Post), .sl 2 (List.map Qd p0.Code), .sl 2 (List.map Qc p0.Points)]), (17, .cp [.sl 2 (List.map Qa p0.Pre), .sl 2 (List.map Qa p0.Post), .sl 2 (List.map Qd p0.Code), .sl 2 (List.map Qc p0.Points)]), (18, .cp [.sl 2 (List.map Qd p0.Code)])], [(11, .box [.snil, .snil, .snil, .snil]), (7693, .arr ⟨false, true⟩ 2 184 (List.map Qa r9))]⟩ ?_ (fun hS7292_24 => ?_)
  ·refine Qz [8, 10, 14, 17] (by kernel_rfl) rfl ?_
   refine ⟨?_, ?_, ?_, ?_⟩
   ·refine ⟨_, rfl, ?_⟩
    refine Qb rfl rfl rfl rfl (Qg ag66 rfl rfl) ?_
    refine Qe ?_
    refine Ql [0, 2, 5, 6, 7, 8, 9, 10, 11, 12, 13, 16, 17, 18] [11, 7693] rfl rfl rfl rfl (by rw [hF]; rfl) ?_
    exact hS7292_16
   ·refine ⟨_, rfl, ?_⟩
    refine QE 8173 (es := List.map Qd ([] : List Instr)) el24 z40 rfl rfl rfl rfl rfl rfl rfl rfl rfl ?_
    refine Qe ?_
    refine Ql [0, 2, 5, 6, 7, 8, 9, 10, 11, 12, 15, 16, 17, 18] [11, 7693, 8173] rfl rfl rfl rfl (by rw [hF]; rfl) ?_
    exact hS7292_18
   ·refine ⟨_, rfl, ?_⟩
    refine Qb rfl rfl rfl rfl (Qg ag24 rfl rfl) ?_
    refine Qe ?_
    refine Ql [0, 2, 5, 6, 7, 8, 9, 10, 11, 12, 16, 17, 18, 19] [11, 7693] rfl rfl rfl rfl (by rw [hF]; rfl) ?_
    exact hS7292_21
   ·refine ⟨_, rfl, ?_⟩
    refine QJ 8733 z69 rfl rfl rfl rfl rfl rfl rfl ?_
    refine Qe ?_
    refine Ql [0, 2, 3, 5, 6, 7, 8, 9, 10, 11, 12, 16, 17, 18] [11, 7693, 8733] rfl rfl rfl rfl (by rw [hF]; rfl) ?_
    exact hS7292_23
  refine Qy 5 [true, true, true, true, false, true, true, true, true, false, true, true, true, true, true, false, false, true, false] ⟨[(0, .cp [.sl 2 (List.map Qa p0.Pre), .sl 2 (List.map Qa p0.Post), .sl 2 (List.map Qd p0.Code), .sl 2 (List.map Qc p0.Points)]), (2, .ptr 11 0 0), (3, .ptr 8733 0 0), (5, .cp [.sl 2 (List.map Qa p0.Pre), .sl 2 (List.map Qa p0.Post), .sl 2 (List.map Qd p0.Code), .sl 2 (List.map Qc p0.Points)]), (6, .cp [.sl 2 (List.map Qa p0.Pre), .sl 2 (List.map Qa p0.Post), .sl 2 (List.map Qd p0.Code), .sl 2 (List.map Qc p0.Points)]), (7, .cp [.sl 2 (List.map Qa p0.Pre)]), (8, .sl 2 (List.map Qa p0.Pre)), (10, .cp [.sl 2 (List.map Qa p0.Pre), .sl 2 (List.map Qa p0.Post), .sl 2 (List.map Qd p0.Code), .sl 2 (List.map Qc p0.Points)]), (11, .cp [.sl 2 (List.map Qa p0.Pre), .sl 2 (List.map Qa p0.Post), .sl 2 (List.map Qd p0.Code), .sl 2 (List.map Qc p0.Points)]), (12, .cp [.sl 2 (List.map Qa p0.Post)]), (13, .sl 2 (List.map Qa p0.Post)), (15, .ow 8173), (16, .cp [.sl 2 (List.map Qa p0.Pre), .sl 2 (List.map Qa p0.Post), .sl 2 (List.map Qd p0.Code), .sl 2 (List.map Qc p0.Points)]), (17, .cp [.sl 2 (List.map Qa p0.Pre), .sl 2 (List.map Qa p0.Post), .sl 2 (List.map Qd p0.Code), .sl 2 (List.map Qc p0.Points)]), (18, .cp [.sl 2 (List.map Qd p0.Code)]), (19, .sl 2 (List.map Qd p0.Code))], [(11, .box [.snil, .snil, .snil, .snil]), (8173, .arr ⟨false, false⟩ 2 40 (List.map Qd ([] : List Instr))), (8733, .box [.snil, .snil, .snil, .snil])]⟩ ?_ (fun hS7292_25 => ?_)
  ·refine Qs 4 (by kernel_rfl) rfl ?_
   refine Qt [(1000, 7693)] (ACall.F (F := F) (Qp p0.Pre r9 hr9)) Try.call104 rfl rfl rfl rfl rfl rfl rfl rfl rfl rfl rfl rfl rfl ?_
   refine Qe ?_
   refine Qs 9 (by kernel_rfl) rfl ?_
   refine Qt [(1000, 8093)] (ACall.F (F := F) (Qp p0.Post r14 hr14)) Try.call104 rfl rfl rfl rfl rfl rfl rfl rfl rfl rfl rfl rfl rfl ?_
   refine Qe ?_
   refine Qs 15 (by kernel_rfl) rfl ?_
   refine Xn (f := Qd) (a := ([] : List Instr)) (b := p0.Code) el24 z40 rfl rfl rfl rfl rfl rfl rfl (Q9 hq20) rfl rfl rfl rfl rfl ?_
   refine Qe ?_
   refine Qn 16 (by kernel_rfl) rfl rfl rfl rfl rfl (Q3 pl69 z69 rfl rfl rfl rfl rfl) ?_
   refine Qs 18 (by kernel_rfl) rfl ?_
   refine Qo sz69 rfl rfl rfl rfl rfl rfl rfl rfl rfl ?_
   refine Qe ?_
   refine QX (by kernel_rfl) ?_
   refine Qm [0, 2, 3] [11, 7693, 8093, 8173, 8733] rfl rfl rfl rfl (by rw [hF]; rfl) ?_
   refine T_ren [(11, 11), (7693, 412), (8093, 812), (8173, 892), (8733, 1452)] rfl rfl rfl (by rw [hF]; rfl) ?_
   exact hj0 (r9, r14) hm
  refine Qy 7 [true, true, true, true, false, true, true, true, true, false, true, true, true, true, false, false, false, false, false] ⟨[(0, .cp [.sl 2 (List.map Qa p0.Pre), .sl 2 (List.map Qa p0.Post), .sl 2 (List.map Qd p0.Code), .sl 2 (List.map Qc p0.Points)]), (2, .ptr 11 0 0), (5, .cp [.sl 2 (List.map Qa p0.Pre), .sl 2 (List.map Qa p0.Post), .sl 2 (List.map Qd p0.Code), .sl 2 (List.map Qc p0.Points)]), (6, .cp [.sl 2 (List.map Qa p0.Pre), .sl 2 (List.map Qa p0.Post), .sl 2 (List.map Qd p0.Code), .sl 2 (List.map Qc p0.Points)]), (7, .cp [.sl 2 (List.map Qa p0.Pre)]), (8, .sl 2 (List.map Qa p0.Pre)), (10, .cp [.sl 2 (List.map Qa p0.Pre), .sl 2 (List.map Qa p0.Post), .sl 2 (List.map Qd p0.Code), .sl 2 (List.map Qc p0.Points)]), (11, .cp [.sl 2 (List.map Qa p0.Pre), .sl 2 (List.map Qa p0.Post), .sl 2 (List.map Qd p0.Code), .sl 2 (List.map Qc p0.Points)]), (12, .cp [.sl 2 (List.map Qa p0.Post)]), (13, .sl 2 (List.map Qa p0.Post)), (15, .ow 8173), (16, .cp [.sl 2 (List.map Qa p0.Pre), .sl 2 (List.map Qa p0.Post), .sl 2 (List.map Qd p0.Code), .sl 2 (List.map Qc p0.Points)]), (17, .cp [.sl 2 (List.map Qa p0.Pre), .sl 2 (List.map Qa p0.Post), .sl 2 (List.map Qd p0.Code), .sl 2 (List.map Qc p0.Points)]), (18, .cp [.sl 2 (List.map Qd p0.Code)])], [(11, .box [.snil, .snil, .snil, .snil]), (8173, .arr ⟨false, false⟩ 2 40 (List.map Qd ([] : List Instr)))]⟩ ?_ (fun hS7292_26 => ?_)
  ·refine Qn 14 (by kernel_rfl) rfl rfl rfl rfl rfl (Qg ag24 rfl rfl) ?_
   refine Qz [4, 17] (by kernel_rfl) rfl ?_
   refine ⟨?_, ?_⟩
   ·refine ⟨_, rfl, ?_⟩
    refine Qt [(1000, 7693)] (ACall.F (F := F) (Qp p0.Pre r9 hr9)) Try.call104 rfl rfl rfl rfl rfl rfl rfl rfl rfl rfl rfl rfl rfl ?_
    refine Qe ?_
    refine Ql [0, 2, 5, 6, 7, 8, 9, 10, 11, 12, 13, 15, 16, 17, 18, 19] [11, 7693, 8173] rfl rfl rfl rfl (by rw [hF]; rfl) ?_
    exact hS7292_11
   ·refine ⟨_, rfl, ?_⟩
    refine QJ 8733 z69 rfl rfl rfl rfl rfl rfl rfl ?_
    refine Qe ?_
    refine Ql [0, 2, 3, 5, 6, 7, 8, 10, 11, 12, 13, 15, 16, 17, 18, 19] [11, 8173, 8733] rfl rfl rfl rfl (by rw [hF]; rfl) ?_
    exact hS7292_25
  refine Qy 6 [true, true, true, true, false, true, true, true, true, false, true, true, true, true, true, false, false, false, false] ⟨[(0, .cp [.sl 2 (List.map Qa p0.Pre), .sl 2 (List.map Qa p0.Post), .sl 2 (List.map Qd p0.Code), .sl 2 (List.map Qc p0.Points)]), (2, .ptr 11 0 0), (5, .cp [.sl 2 (List.map Qa p0.Pre), .sl 2 (List.map Qa p0.Post), .sl 2 (List.map Qd p0.Code), .sl 2 (List.map Qc p0.Points)]), (6, .cp [.sl 2 (List.map Qa p0.Pre), .sl 2 (List.map Qa p0.Post), .sl 2 (List.map Qd p0.Code), .sl 2 (List.map Qc p0.Points)]), (7, .cp [.sl 2 (List.map Qa p0.Pre)]), (8, .sl 2 (List.map Qa p0.Pre)), (10, .cp [.sl 2 (List.map Qa p0.Pre), .sl 2 (List.map Qa p0.Post), .sl 2 (List.map Qd p0.Code), .sl 2 (List.map Qc p0.Points)]), (11, .cp [.sl 2 (List.map Qa p0.Pre), .sl 2 (List.map Qa p0.Post), .sl 2 (List.map Qd p0.Code), .sl 2 (List.map Qc p0.Points)]), (12, .cp [.sl 2 (List.map Qa p0.Post)]), (13, .sl 2 (List.map Qa p0.Post)), (15, .ow 8173), (16, .cp [.sl 2 (List.map Qa p0.Pre), .sl 2 (List.map Qa p0.Post), .sl 2 (List.map Qd p0.Code), .sl 2 (List.map Qc p0.Points)]), (17, .cp [.sl 2 (List.map Qa p0.Pre), .sl 2 (List.map Qa p0.Post), .sl 2 (List.map Qd p0.Code), .sl 2 (List.map Qc p0.Points)]), (18, .cp [.sl 2 (List.map Qd p0.Code)]), (19, .sl 2 (List.map Qd p0.Code))], [(11, .box [.snil, .snil, .snil, .snil]), (8173, .arr ⟨false, false⟩ 2 40 (List.map Qd ([] : List Instr)))]⟩ ?_ (fun hS7292_27 => ?_)
  ·refine Qz [4, 17] (by kernel_rfl) rfl ?_
   refine ⟨?_, ?_⟩
   ·refine ⟨_, rfl, ?_⟩
    refine Qt [(1000, 7693)] (ACall.F (F := F) (Qp p0.Pre r9 hr9)) Try.call104 rfl rfl rfl rfl rfl rfl rfl rfl rfl rfl rfl rfl rfl ?_
    refine Qe ?_
    refine Ql [0, 2, 5, 6, 7, 8, 9, 10, 11, 12, 13, 15, 16, 17, 18, 19] [11, 7693, 8173] rfl rfl rfl rfl (by rw [hF]; rfl) ?_
    exact hS7292_11
   ·refine ⟨_, rfl, ?_⟩
    refine QJ 8733 z69 rfl rfl rfl rfl rfl rfl rfl ?_
    refine Qe ?_
    refine Ql [0, 2, 3, 5, 6, 7, 8, 10, 11, 12, 13, 15, 16, 17, 18, 19] [11, 8173, 8733] rfl rfl rfl rfl (by rw [hF]; rfl) ?_
    exact hS7292_25
  refine Qy 6 [true, true, true, true, false, true, true, true, true, false, false, true, true, true, true, false, false, true, false] ⟨[(0, .cp [.sl 2 (List.map Qa p0.Pre), .sl 2 (List.map Qa p0.Post), .sl 2 (List.map Qd p0.Code), .sl 2 (List.map Qc p0.Points)]), (2, .ptr 11 0 0), (3, .ptr 8733 0 0), (5, .cp [.sl 2 (List.map Qa p0.Pre), .sl 2 (List.map Qa p0.Post), .sl 2 (List.map Qd p0.Code), .sl 2 (List.map Qc p0.Points)]), (6, .cp [.sl 2 (List.map Qa p0.Pre), .sl 2 (List.map Qa p0.Post), .sl 2 (List.map Qd p0.Code), .sl 2 (List.map Qc p0.Points)]), (7, .cp [.sl 2 (List.map Qa p0.Pre)]), (8, .sl 2 (List.map Qa p0.Pre)), (10, .cp [.sl 2 (List.map Qa p0.Pre), .sl 2 (List.map Qa p0.Post), .sl 2 (List.map Qd p0.Code), .sl 2 (List.map Qc p0.Points)]), (11, .cp [.sl 2 (List.map Qa p0.Pre), .sl 2 (List.map Qa p0.Post), .sl 2 (List.map Qd p0.Code), .sl 2 (List.map Qc p0.Points)]), (12, .cp [.sl 2 (List.map Qa p0.Post)]), (13, .sl 2 (List.map Qa p0.Post)), (16, .cp [.sl 2 (List.map Qa p0.Pre), .sl 2 (List.map Qa p0.Post), .sl 2 (List.map Qd p0.Code), .sl 2 (List.map Qc p0.Points)]), (17, .cp [.sl 2 (List.map Qa p0.Pre), .sl 2 (List.map Qa p0.Post), .sl 2 (List.map Qd p0.Code), .sl 2 (List.map Qc p0.Points)]), (18, .cp [.sl 2 (List.map Qd p0.Code)]), (19, .sl 2 (List.map Qd p0.Code))], [(11, .box [.snil, .snil, .snil, .snil]), (8733, .box [.snil, .snil, .snil, .snil])]⟩ ?_ (fun hS7292_28 => ?_)
  ·refine Qz [4, 10] (by kernel_rfl) rfl ?_
   refine ⟨?_, ?_⟩
   ·refine ⟨_, rfl, ?_⟩
    refine Qt [(1000, 7693)] (ACall.F (F := F) (Qp p0.Pre r9 hr9)) Try.call104 rfl rfl rfl rfl rfl rfl rfl rfl rfl rfl rfl rfl rfl ?_
    refine Qe ?_
    refine Ql [0, 2, 3, 5, 6, 7, 8, 9, 10, 11, 12, 13, 16, 17, 18, 19] [11, 7693, 8733] rfl rfl rfl rfl (by rw [hF]; rfl) ?_
    exact hS7292_12
   ·refine ⟨_, rfl, ?_⟩
    refine QE 8173 (es := List.map Qd ([] : List Instr)) el24 z40 rfl rfl rfl rfl rfl rfl rfl rfl rfl ?_
    refine Qe ?_
    refine Ql [0, 2, 3, 5, 6, 7, 8, 10, 11, 12, 13, 15, 16, 17, 18, 19] [11, 8173, 8733] rfl rfl rfl rfl (by rw [hF]; rfl) ?_
    exact hS7292_25
  refine Qy 7 [true, true, true, true, false, true, true, true, true, false, false, true, true, true, true, false, false, false, false] ⟨[(0, .cp [.sl 2 (List.map Qa p0.Pre), .sl 2 (List.map Qa p0.Post), .sl 2 (List.map Qd p0.Code), .sl 2 (List.map Qc p0.Points)]), (2, .ptr 11 0 0), (5, .cp [.sl 2 (List.map Qa p0.Pre), .sl 2 (List.map Qa p0.Post), .sl 2 (List.map Qd p0.Code), .sl 2 (List.map Qc p0.Points)]), (6, .cp [.sl 2 (List.map Qa p0.Pre), .sl 2 (List.map Qa p0.Post), .sl 2 (List.map Qd p0.Code), .sl 2 (List.map Qc p0.Points)]), (7, .cp [.sl 2 (List.map Qa p0.Pre)]), (8, .sl 2 (List.map Qa p0.Pre)), (10, .cp [.sl 2 (List.map Qa p0.Pre), .sl 2 (List.map Qa p0.Post), .sl 2 (List.map Qd p0.Code), .sl 2 (List.map Qc p0.Points)]), (11, .cp [.sl 2 (List.map Qa p0.Pre), .sl 2 (List.map Qa p0.Post), .sl 2 (List.map Qd p0.Code), .sl 2 (List.map Qc p0.Points)]), (12, .cp [.sl 2 (List.map Qa p0.Post)]), (13, .sl 2 (List.map Qa p0.Post)), (16, .cp [.sl 2 (List.map Qa p0.Pre), .sl 2 (List.map Qa p0.Post), .sl 2 (List.map Qd p0.Code), .sl 2 (List.map Qc p0.Points)]), (17, .cp [.sl 2 (List.map Qa p0.Pre), .sl 2 (List.map Qa p0.Post), .sl 2 (List.map Qd p0.Code), .sl 2 (List.map Qc p0.Points)]), (18, .cp [.sl 2 (List.map Qd p0.Code)]), (19, .sl 2 (List.map Qd p0.Code))], [(11, .box [.snil, .snil, .snil, .snil])]⟩ ?_ (fun hS7292_29 => ?_)
  ·refine Qz [4, 10, 17] (by kernel_rfl) rfl ?_
   refine ⟨?_, ?_, ?_⟩
   ·refine ⟨_, rfl, ?_⟩
    refine Qt [(1000, 7693)] (ACall.F (F := F) (Qp p0.Pre r9 hr9)) Try.call104 rfl rfl rfl rfl rfl rfl rfl rfl rfl rfl rfl rfl rfl ?_
    refine Qe ?_
    refine Ql [0, 2, 5, 6, 7, 8, 9, 10, 11, 12, 13, 16, 17, 18, 19] [11, 7693] rfl rfl rfl rfl (by rw [hF]; rfl) ?_
    exact hS7292_13
   ·refine ⟨_, rfl, ?_⟩
    refine QE 8173 (es := List.map Qd ([] : List Instr)) el24 z40 rfl rfl rfl rfl rfl rfl rfl rfl rfl ?_
    refine Qe ?_
    refine Ql [0, 2, 5, 6, 7, 8, 10, 11, 12, 13, 15, 16, 17, 18, 19] [11, 8173] rfl rfl rfl rfl (by rw [hF]; rfl) ?_
    exact hS7292_27
   ·refine ⟨_, rfl, ?_⟩
    refine QJ 8733 z69 rfl rfl rfl rfl rfl rfl rfl ?_
    refine Qe ?_
    refine Ql [0, 2, 3, 5, 6, 7, 8, 10, 11, 12, 13, 16, 17, 18, 19] [11, 8733] rfl rfl rfl rfl (by rw [hF]; rfl) ?_
    exact hS7292_28
  refine Qy 6 [true, true, true, true, false, true, true, true, true, false, true, true, true, true, false, false, false, true, false] ⟨[(0, .cp [.sl 2 (List.map Qa p0.Pre), .sl 2 (List.map Qa p0.Post), .sl 2 (List.map Qd p0.Code), .sl 2 (List.map Qc p0.Points)]), (2, .ptr 11 0 0), (3, .ptr 8733 0 0), (5, .cp [.sl 2 (List.map Qa p0.Pre), .sl 2 (List.map Qa p0.Post), .sl 2 (List.map Qd p0.Code), .sl 2 (List.map Qc p0.Points)]), (6, .cp [.sl 2 (List.map Qa p0.Pre), .sl 2 (List.map Qa p0.Post), .sl 2 (List.map Qd p0.Code), .sl 2 (List.map Qc p0.Points)]), (7, .cp [.sl 2 (List.map Qa p0.Pre)]), (8, .sl 2 (List.map Qa p0.Pre)), (10, .cp [.sl 2 (List.map Qa p0.Pre), .sl 2 (List.map Qa p0.Post), .sl 2 (List.map Qd p0.Code), .sl 2 (List.map Qc p0.Points)]), (11, .cp [.sl 2 (List.map Qa p0.Pre), .sl 2 (List.map Qa p0.Post), .sl 2 (List.map Qd p0.Code), .sl 2 (List.map Qc p0.Points)]), (12, .cp [.sl 2 (List.map Qa p0.Post)]), (13, .sl 2 (List.map Qa p0.Post)), (15, .ow 8173), (16, .cp [.sl 2 (List.map Qa p0.Pre), .sl 2 (List.map Qa p0.Post), .sl 2 (List.map Qd p0.Code), .sl 2 (List.map Qc p0.Points)]), (17, .cp [.sl 2 (List.map Qa p0.Pre), .sl 2 (List.map Qa p0.Post), .sl 2 (List.map Qd p0.Code), .sl 2 (List.map Qc p0.Points)]), (18, .cp [.sl 2 (List.map Qd p0.Code)])], [(11, .box [.snil, .snil, .snil, .snil]), (8173, .arr ⟨false, false⟩ 2 40 (List.map Qd ([] : List Instr))), (8733, .box [.snil, .snil, .snil, .snil])]⟩ ?_ (fun hS7292_30 => ?_)
  ·refine Qn 14 (by kernel_rfl) rfl rfl rfl rfl rfl (Qg ag24 rfl rfl) ?_
   refine Qs 4 (by kernel_rfl) rfl ?_
   refine Qt [(1000, 7693)] (ACall.F (F := F) (Qp p0.Pre r9 hr9)) Try.call104 rfl rfl rfl rfl rfl rfl rfl rfl rfl rfl rfl rfl rfl ?_
   refine Qe ?_
   refine Qs 9 (by kernel_rfl) rfl ?_
   refine Qt [(1000, 8093)] (ACall.F (F := F) (Qp p0.Post r14 hr14)) Try.call104 rfl rfl rfl rfl rfl rfl rfl rfl rfl rfl rfl rfl rfl ?_
   refine Qe ?_
   refine Qs 15 (by kernel_rfl) rfl ?_
   refine Xn (f := Qd) (a := ([] : List Instr)) (b := p0.Code) el24 z40 rfl rfl rfl rfl rfl rfl rfl (Q9 hq20) rfl rfl rfl rfl rfl ?_
   refine Qe ?_
   refine Qn 16 (by kernel_rfl) rfl rfl rfl rfl rfl (Q3 pl69 z69 rfl rfl rfl rfl rfl) ?_
   refine Qs 18 (by kernel_rfl) rfl ?_
   refine Qo sz69 rfl rfl rfl rfl rfl rfl rfl rfl rfl ?_
   refine Qe ?_
   refine QX (by kernel_rfl) ?_
   refine Qm [0, 2, 3] [11, 7693, 8093, 8173, 8733] rfl rfl rfl rfl (by rw [hF]; rfl) ?_
   refine T_ren [(11, 11), (7693, 412), (8093, 812), (8173, 892), (8733, 1452)] rfl rfl rfl (by rw [hF]; rfl) ?_
   exact hj0 (r9, r14) hm
  refine Qy 7 [true, true, true, true, false, true, true, true, true, false, false, true, true, true, false, false, false, true, false] ⟨[(0, .cp [.sl 2 (List.map Qa p0.Pre), .sl 2 (List.map Qa p0.Post), .sl 2 (List.map Qd p0.Code), .sl 2 (List.map Qc p0.Points)]), (2, .ptr 11 0 0), (3, .ptr 8733 0 0), (5, .cp [.sl 2 (List.map Qa p0.Pre), .sl 2 (List.map Qa p0.Post), .sl 2 (List.map Qd p0.Code), .sl 2 (List.map Qc p0.Points)]), (6, .cp [.sl 2 (List.map Qa p0.Pre), .sl 2 (List.map Qa p0.Post), .sl 2 (List.map Qd p0.Code), .sl 2 (List.map Qc p0.Points)]), (7, .cp [.sl 2 (List.map Qa p0.Pre)]), (8, .sl 2 (List.map Qa p0.Pre)), (10, .cp [.sl 2 (List.map Qa p0.Pre), .sl 2 (List.map Qa p0.Post), .sl 2 (List.map Qd p0.Code), .sl 2 (List.map Qc p0.Points)]), (11, .cp [.sl 2 (List.map Qa p0.Pre), .sl 2 (List.map Qa p0.Post), .sl 2 (List.map Qd p0.Code), .sl 2 (List.map Qc p0.Points)]), (12, .cp [.sl 2 (List.map Qa p0.Post)]), (13, .sl 2 (List.map Qa p0.Post)), (16, .cp [.sl 2 (List.map Qa p0.Pre), .sl 2 (List.map Qa p0.Post), .sl 2 (List.map Qd p0.Code), .sl 2 (List.map Qc p0.Points)]), (17, .cp [.sl 2 (List.map Qa p0.Pre), .sl 2 (List.map Qa p0.Post), .sl 2 (List.map Qd p0.Code), .sl 2 (List.map Qc p0.Points)]), (18, .cp [.sl 2 (List.map Qd p0.Code)])], [(11, .box [.snil, .snil, .snil, .snil]), (8733, .box [.snil, .snil, .snil, .snil])]⟩ ?_ (fun hS7292_31 => ?_)
  ·refine Qz [4, 10, 14] (by kernel_rfl) rfl ?_
   refine ⟨?_, ?_, ?_⟩
   ·refine ⟨_, rfl, ?_⟩
    refine Qt [(1000, 7693)] (ACall.F (F := F) (Qp p0.Pre r9 hr9)) Try.call104 rfl rfl rfl rfl rfl rfl rfl rfl rfl rfl rfl rfl rfl ?_
    refine Qe ?_
    refine Ql [0, 2, 3, 5, 6, 7, 8, 9, 10, 11, 12, 13, 16, 17, 18] [11, 7693, 8733] rfl rfl rfl rfl (by rw [hF]; rfl) ?_
    exact hS7292_15
   ·refine ⟨_, rfl, ?_⟩
    refine QE 8173 (es := List.map Qd ([] : List Instr)) el24 z40 rfl rfl rfl rfl rfl rfl rfl rfl rfl ?_
    refine Qe ?_
    refine Ql [0, 2, 3, 5, 6, 7, 8, 10, 11, 12, 13, 15, 16, 17, 18] [11, 8173, 8733] rfl rfl rfl rfl (by rw [hF]; rfl) ?_
    exact hS7292_30
   ·refine ⟨_, rfl, ?_⟩
    refine Qb rfl rfl rfl rfl (Qg ag24 rfl rfl) ?_
    refine Qe ?_
    refine Ql [0, 2, 3, 5, 6, 7, 8, 10, 11, 12, 13, 16, 17, 18, 19] [11, 8733] rfl rfl rfl rfl (by rw [hF]; rfl) ?_
    exact hS7292_28
  refine Qy 8 [true, true, true, true, false, true, true, true, true, false, false, true, true, true, false, false, false, false, false] ⟨[(0, .cp [.sl 2 (List.map Qa p0.Pre), .sl 2 (List.map Qa p0.Post), .sl 2 (List.map Qd p0.Code), .sl 2 (List.map Qc p0.Points)]), (2, .ptr 11 0 0), (5, .cp [.sl 2 (List.map Qa p0.Pre), .sl 2 (List.map Qa p0.Post), .sl 2 (List.map Qd p0.Code), .sl 2 (List.map Qc p0.Points)]), (6, .cp [.sl 2 (List.map Qa p0.Pre), .sl 2 (List.map Qa p0.Post), .sl 2 (List.map Qd p0.Code), .sl 2 (List.map Qc p0.Points)]), (7, .cp [.sl 2 (List.map Qa p0.Pre)]), (8, .sl 2 (List.map Qa p0.Pre)), (10, .cp [.sl 2 (List.map Qa p0.Pre), .sl 2 (List.map Qa p0.Post), .sl 2 (List.map Qd p0.Code), .sl 2 (List.map Qc p0.Points)]), (11, .cp [.sl 2 (List.map Qa p0.Pre), .sl 2 (List.map Qa p0.Post), .sl 2 (List.map Qd p0.Code), .sl 2 (List.map Qc p0.Points)]), (12, .cp [.sl 2 (List.map Qa p0.Post)]), (13, .sl 2 (List.map Qa p0.Post)), (16, .cp [.sl 2 (List.map Qa p0.Pre), .sl 2 (List.map Qa p0.Post), .sl 2 (List.map Qd p0.Code), .sl 2 (List.map Qc p0.Points)]), (17, .cp [.sl 2 (List.map Qa p0.Pre), .sl 2 (List.map Qa p0.Post), .sl 2 (List.map Qd p0.Code), .sl 2 (List.map Qc p0.Points)]), (18, .cp [.sl 2 (List.map Qd p0.Code)])], [(11, .box [.snil, .snil, .snil, .snil])]⟩ ?_ (fun hS7292_32 => ?_)
  ·refine Qz [4, 10, 14, 17] (by kernel_rfl) rfl ?_
   refine ⟨?_, ?_, ?_, ?_⟩
   ·refine ⟨_, rfl, ?_⟩
    refine Qt [(1000, 7693)] (ACall.F (F := F) (Qp p0.Pre r9 hr9)) Try.call104 rfl rfl rfl rfl rfl rfl rfl rfl rfl rfl rfl rfl rfl ?_
    refine Qe ?_
    refine Ql [0, 2, 5, 6, 7, 8, 9, 10, 11, 12, 13, 16, 17, 18] [11, 7693] rfl rfl rfl rfl (by rw [hF]; rfl) ?_
    exact hS7292_16
   ·refine ⟨_, rfl, ?_⟩
    refine QE 8173 (es := List.map Qd ([] : List Instr)) el24 z40 rfl rfl rfl rfl rfl rfl rfl rfl rfl ?_
    refine Qe ?_
    refine Ql [0, 2, 5, 6, 7, 8, 10, 11, 12, 13, 15, 16, 17, 18] [11, 8173] rfl rfl rfl rfl (by rw [hF]; rfl) ?_
    exact hS7292_26
   ·refine ⟨_, rfl, ?_⟩
    refine Qb rfl rfl rfl rfl (Qg ag24 rfl rfl) ?_
    refine Qe ?_
    refine Ql [0, 2, 5, 6, 7, 8, 10, 11, 12, 13, 16, 17, 18, 19] [11] rfl rfl rfl rfl (by rw [hF]; rfl) ?_
    exact hS7292_29
   ·refine ⟨_, rfl, ?_⟩
    refine QJ 8733 z69 rfl rfl rfl rfl rfl rfl rfl ?_
    refine Qe ?_
    refine Ql [0, 2, 3, 5, 6, 7, 8, 10, 11, 12, 13, 16, 17, 18] [11, 8733] rfl rfl rfl rfl (by rw [hF]; rfl) ?_
    exact hS7292_31
  refine Qy 6 [true, true, true, true, false, true, true, true, false, false, true, true, true, true, true, false, false, true, false] ⟨[(0, .cp [.sl 2 (List.map Qa p0.Pre), .sl 2 (List.map Qa p0.Post), .sl 2 (List.map Qd p0.Code), .sl 2 (List.map Qc p0.Points)]), (2, .ptr 11 0 0), (3, .ptr 8733 0 0), (5, .cp [.sl 2 (List.map Qa p0.Pre), .sl 2 (List.map Qa p0.Post), .sl 2 (List.map Qd p0.Code), .sl 2 (List.map Qc p0.Points)]), (6, .cp [.sl 2 (List.map Qa p0.Pre), .sl 2 (List.map Qa p0.Post), .sl 2 (List.map Qd p0.Code), .sl 2 (List.map Qc p0.Points)]), (7, .cp [.sl 2 (List.map Qa p0.Pre)]), (8, .sl 2 (List.map Qa p0.Pre)), (10, .cp [.sl 2 (List.map Qa p0.Pre), .sl 2 (List.map Qa p0.Post), .sl 2 (List.map Qd p0.Code), .sl 2 (List.map Qc p0.Points)]), (11, .cp [.sl 2 (List.map Qa p0.Pre), .sl 2 (List.map Qa p0.Post), .sl 2 (List.map Qd p0.Code), .sl 2 (List.map Qc p0.Points)]), (12, .cp [.sl 2 (List.map Qa p0.Post)]), (15, .ow 8173), (16, .cp [.sl 2 (List.map Qa p0.Pre), .sl 2 (List.map Qa p0.Post), .sl 2 (List.map Qd p0.Code), .sl 2 (List.map Qc p0.Points)]), (17, .cp [.sl 2 (List.map Qa p0.Pre), .sl 2 (List.map Qa p0.Post), .sl 2 (List.map Qd p0.Code), .sl 2 (List.map Qc p0.Points)]), (18, .cp [.sl 2 (List.map Qd p0.Code)]), (19, .sl 2 (List.map Qd p0.Code))], [(11, .box [.snil, .snil, .snil, .snil]), (8173, .arr ⟨false, false⟩ 2 40 (List.map Qd ([] : List Instr))), (8733, .box [.snil, .snil, .snil, .snil])]⟩ ?_ (fun hS7292_33 => ?_)
  ·refine Qz [4, 8] (by kernel_rfl) rfl ?_
   refine ⟨?_, ?_⟩
   ·refine ⟨_, rfl, ?_⟩
    refine Qt [(1000, 7693)] (ACall.F (F := F) (Qp p0.Pre r9 hr9)) Try.call104 rfl rfl rfl rfl rfl rfl rfl rfl rfl rfl rfl rfl rfl ?_
    refine Qe ?_
    refine Ql [0, 2, 3, 5, 6, 7, 8, 9, 10, 11, 12, 15, 16, 17, 18, 19] [11, 7693, 8173, 8733] rfl rfl rfl rfl (by rw [hF]; rfl) ?_
    exact hS7292_17
   ·refine ⟨_, rfl, ?_⟩
    refine Qb rfl rfl rfl rfl (Qg ag66 rfl rfl) ?_
    refine Qe ?_
    refine Ql [0, 2, 3, 5, 6, 7, 8, 10, 11, 12, 13, 15, 16, 17, 18, 19] [11, 8173, 8733] rfl rfl rfl rfl (by rw [hF]; rfl) ?_
    exact hS7292_25
  refine Qy 8 [true, true, true, true, false, true, true, true, false, false, true, true, true, true, false, false, false, false, false] ⟨[(0, .cp [.sl 2 (List.map Qa p0.Pre), .sl 2 (List.map Qa p0.Post), .sl 2 (List.map Qd p0.Code), .sl 2 (List.map Qc p0.Points)]), (2, .ptr 11 0 0), (5, .cp [.sl 2 (List.map Qa p0.Pre), .sl 2 (List.map Qa p0.Post), .sl 2 (List.map Qd p0.Code), .sl 2 (List.map Qc p0.Points)]), (6, .cp [.sl 2 (List.map Qa p0.Pre), .sl 2 (List.map Qa p0.Post), .sl 2 (List.map Qd p0.Code), .sl 2 (List.map Qc p0.Points)]), (7, .cp [.sl 2 (List.map Qa p0.Pre)]), (8, .sl 2 (List.map Qa p0.Pre)), (10, .cp [.sl 2 (List.map Qa p0.Pre), .sl 2 (List.map Qa p0.Post), .sl 2 (List.map Qd p0.Code), .sl 2 (List.map Qc p0.Points)]), (11, .cp [.sl 2 (List.map Qa p0.Pre), .sl 2 (List.map Qa p0.Post), .sl 2 (List.map Qd p0.Code), .sl 2 (List.map Qc p0.Points)]), (12, .cp [.sl 2 (List.map Qa p0.Post)]), (15, .ow 8173), (16, .cp [.sl 2 (List.map Qa p0.Pre), .sl 2 (List.map Qa p0.Post), .sl 2 (List.map Qd p0.Code), .sl 2 (List.map Qc p0.Points)]), (17, .cp [.sl 2 (List.map Qa p0.Pre), .sl 2 (List.map Qa p0.Post), .sl 2 (List.map Qd p0.Code), .sl 2 (List.map Qc p0.Points)]), (18, .cp [.sl 2 (List.map Qd p0.Code)])], [(11, .box [.snil, .snil, .snil, .snil]), (8173, .arr ⟨false, false⟩ 2 40 (List.map Qd ([] : List Instr)))]⟩ ?_ (fun hS7292_34 => ?_)
  ·refine Qn 14 (by kernel_rfl) rfl rfl rfl rfl rfl (Qg ag24 rfl rfl) ?_
   refine Qz [4, 8, 17] (by kernel_rfl) rfl ?_
   refine ⟨?_, ?_, ?_⟩
   ·refine ⟨_, rfl, ?_⟩
    refine Qt [(1000, 7693)] (ACall.F (F := F) (Qp p0.Pre r9 hr9)) Try.call104 rfl rfl rfl rfl rfl rfl rfl rfl rfl rfl rfl rfl rfl ?_
    refine Qe ?_
    refine Ql [0, 2, 5, 6, 7, 8, 9, 10, 11, 12, 15, 16, 17, 18, 19] [11, 7693, 8173] rfl rfl rfl rfl (by rw [hF]; rfl) ?_
    exact hS7292_19
   ·refine ⟨_, rfl, ?_⟩
    refine Qb rfl rfl rfl rfl (Qg ag66 rfl rfl) ?_
    refine Qe ?_
    refine Ql [0, 2, 5, 6, 7, 8, 10, 11, 12, 13, 15, 16, 17, 18, 19] [11, 8173] rfl rfl rfl rfl (by rw [hF]; rfl) ?_
    exact hS7292_27
   ·refine ⟨_, rfl, ?_⟩
    refine QJ 8733 z69 rfl rfl rfl rfl rfl rfl rfl ?_
    refine Qe ?_
    refine Ql [0, 2, 3, 5, 6, 7, 8, 10, 11, 12, 15, 16, 17, 18, 19] [11, 8173, 8733] rfl rfl rfl rfl (by rw [hF]; rfl) ?_
    exact hS7292_33
  refine Qy 7 [true, true, true, true, false, true, true, true, false, false, true, true, true, true, true, false, false, false, false] ⟨[(0, .cp [.sl 2 (List.map Qa p0.Pre), .sl 2 (List.map Qa p0.Post), .sl 2 (List.map Qd p0.Code), .sl 2 (List.map Qc p0.Points)]), (2, .ptr 11 0 0), (5, .cp [.sl 2 (List.map Qa p0.Pre), .sl 2 (List.map Qa p0.Post), .sl 2 (List.map Qd p0.Code), .sl 2 (List.map Qc p0.Points)]), (6, .cp [.sl 2 (List.map Qa p0.Pre), .sl 2 (List.map Qa p0.Post), .sl 2 (List.map Qd p0.Code), .sl 2 (List.map Qc p0.Points)]), (7, .cp [.sl 2 (List.map Qa p0.Pre)]), (8, .sl 2 (List.map Qa p0.Pre)), (10, .cp [.sl 2 (List.map Qa p0.Pre), .sl 2 (List.map Qa p0.Post), .sl 2 (List.map Qd p0.Code), .sl 2 (List.map Qc p0.Points)]), (11, .cp [.sl 2 (List.map Qa p0.Pre), .sl 2 (List.map Qa p0.Post), .sl 2 (List.map Qd p0.Code), .sl 2 (List.map Qc p0.Points)]), (12, .cp [.sl 2 (List.map Qa p0.Post)]), (15, .ow 8173), (16, .cp [.sl 2 (List.map Qa p0.Pre), .sl 2 (List.map Qa p0.Post), .sl 2 (List.map Qd p0.Code), .sl 2 (List.map Qc p0.Points)]), (17, .cp [.sl 2 (List.map Qa p0.Pre), .sl 2 (List.map Qa p0.Post), .sl 2 (List.map Qd p0.Code), .sl 2 (List.map Qc p0.Points)]), (18, .cp [.sl 2 (List.map Qd p0.Code)]), (19, .sl 2 (List.map Qd p0.Code))], [(11, .box [.snil, .snil, .snil, .snil]), (8173, .arr ⟨false, false⟩ 2 40 (List.map Qd ([] : List Instr)))]⟩ ?_ (fun hS7292_35 => ?_)
  ·refine Qz [4, 8, 17] (by kernel_rfl) rfl ?_
   refine ⟨?_, ?_, ?_⟩
   ·refine ⟨_, rfl, ?_⟩
    refine Qt [(1000, 7693)] (ACall.F (F := F) (Qp p0.Pre r9 hr9)) Try.call104 rfl rfl rfl rfl rfl rfl rfl rfl rfl rfl rfl rfl rfl ?_
    refine Qe ?_
    refine Ql [0, 2, 5, 6, 7, 8, 9, 10, 11, 12, 15, 16, 17, 18, 19] [11, 7693, 8173] rfl rfl rfl rfl (by rw [hF]; rfl) ?_
    exact hS7292_19
   ·refine ⟨_, rfl, ?_⟩
    refine Qb rfl rfl rfl rfl (Qg ag66 rfl rfl) ?_
    refine Qe ?_
    refine Ql [0, 2, 5, 6, 7, 8, 10, 11, 12, 13, 15, 16, 17, 18, 19] [11, 8173] rfl rfl rfl rfl (by rw [hF]; rfl) ?_
    exact hS7292_27
   ·refine ⟨_, rfl, ?_⟩
    refine QJ 8733 z69 rfl rfl rfl rfl rfl rfl rfl ?_
    refine Qe ?_
    refine Ql [0, 2, 3, 5, 6, 7, 8, 10, 11, 12, 15, 16, 17, 18, 19] [11, 8173, 8733] rfl rfl rfl rfl (by rw [hF]; rfl) ?_
    exact hS7292_33
  refine Qy 7 [true, true, true, true, false, true, true, true, false, false, false, true, true, true, true, false, false, true, false] ⟨[(0, .cp [.sl 2 (List.map Qa p0.Pre), .sl 2 (List.map Qa p0.Post), .sl 2 (List.map Qd p0.Code), .sl 2 (List.map Qc p0.Points)]), (2, .ptr 11 0 0), (3, .ptr 8733 0 0), (5, .cp [.sl 2 (List.map Qa p0.Pre), .sl 2 (List.map Qa p0.Post), .sl 2 (List.map Qd p0.Code), .sl 2 (List.map Qc p0.Points)]), (6, .cp [.sl 2 (List.map Qa p0.Pre), .sl 2 (List.map Qa p0.Post), .sl 2 (List.map Qd p0.Code), .sl 2 (List.map Qc p0.Points)]), (7, .cp [.sl 2 (List.map Qa p0.Pre)]), (8, .sl 2 (List.map Qa p0.Pre)), (10, .cp [.sl 2 (List.map Qa p0.Pre), .sl 2 (List.map Qa p0.Post), .sl 2 (List.map Qd p0.Code), .sl 2 (List.map Qc p0.Points)]), (11, .cp [.sl 2 (List.map Qa p0.Pre), .sl 2 (List.map Qa p0.Post), .sl 2 (List.map Qd p0.Code), .sl 2 (List.map Qc p0.Points)]), (12, .cp [.sl 2 (List.map Qa p0.Post)]), (16, .cp [.sl 2 (List.map Qa p0.Pre), .sl 2 (List.map Qa p0.Post), .sl 2 (List.map Qd p0.Code), .sl 2 (List.map Qc p0.Points)]), (17, .cp [.sl 2 (List.map Qa p0.Pre), .sl 2 (List.map Qa p0.Post), .sl 2 (List.map Qd p0.Code), .sl 2 (List.map Qc p0.Points)]), (18, .cp [.sl 2 (List.map Qd p0.Code)]), (19, .sl 2 (List.map Qd p0.Code))], [(11, .box [.snil, .snil, .snil, .snil]), (8733, .box [.snil, .snil, .snil, .snil])]⟩ ?_ (fun hS7292_36 => ?_)
  ·refine Qz [4, 8, 10] (by kernel_rfl) rfl ?_
   refine ⟨?_, ?_, ?_⟩
   ·refine ⟨_, rfl, ?_⟩
    refine Qt [(1000, 7693)] (ACall.F (F := F) (Qp p0.Pre r9 hr9)) Try.call104 rfl rfl rfl rfl rfl rfl rfl rfl rfl rfl rfl rfl rfl ?_
    refine Qe ?_
    refine Ql [0, 2, 3, 5, 6, 7, 8, 9, 10, 11, 12, 16, 17, 18, 19] [11, 7693, 8733] rfl rfl rfl rfl (by rw [hF]; rfl) ?_
    exact hS7292_20
   ·refine ⟨_, rfl, ?_⟩
    refine Qb rfl rfl rfl rfl (Qg ag66 rfl rfl) ?_
    refine Qe ?_
    refine Ql [0, 2, 3, 5, 6, 7, 8, 10, 11, 12, 13, 16, 17, 18, 19] [11, 8733] rfl rfl rfl rfl (by rw [hF]; rfl) ?_
    exact hS7292_28
   ·refine ⟨_, rfl, ?_⟩
    refine QE 8173 (es := List.map Qd ([] : List Instr)) el24 z40 rfl rfl rfl rfl rfl rfl rfl rfl rfl ?_
    refine Qe ?_
    refine Ql [0, 2, 3, 5, 6, 7, 8, 10, 11, 12, 15, 16, 17, 18, 19] [11, 8173, 8733] rfl rfl rfl rfl (by rw [hF]; rfl) ?_
    exact hS7292_33
  refine Qy 8 [true, true, true, true, false, true, true, true, false, false, false, true, true, true, true, false, false, false, false] ⟨[(0, .cp [.sl 2 (List.map Qa p0.Pre), .sl 2 (List.map Qa p0.Post), .sl 2 (List.map Qd p0.Code), .sl 2 (List.map Qc p0.Points)]), (2, .ptr 11 0 0), (5, .cp [.sl 2 (List.map Qa p0.Pre), .sl 2 (List.map Qa p0.Post), .sl 2 (List.map Qd p0.Code), .sl 2 (List.map Qc p0.Points)]), (6, .cp [.sl 2 (List.map Qa p0.Pre), .sl 2 (List.map Qa p0.Post), .sl 2 (List.map Qd p0.Code), .sl 2 (List.map Qc p0.Points)]), (7, .cp [.sl 2 (List.map Qa p0.Pre)]), (8, .sl 2 (List.map Qa p0.Pre)), (10, .cp [.sl 2 (List.map Qa p0.Pre), .sl 2 (List.map Qa p0.Post), .sl 2 (List.map Qd p0.Code), .sl 2 (List.map Qc p0.Points)]), (11, .cp [.sl 2 (List.map Qa p0.Pre), .sl 2 (List.map Qa p0.Post), .sl 2 (List.map Qd p0.Code), .sl 2 (List.map Qc p0.Points)]), (12, .cp [.sl 2 (List.map Qa p0.Post)]), (16, .cp [.sl 2 (List.map Qa p0.Pre), .sl 2 (List.map Qa p0.Post), .sl 2 (List.map Qd p0.Code), .sl 2 (List.map Qc p0.Points)]), (17, .cp [.sl 2 (List.map Qa p0.Pre), .sl 2 (List.map Qa p0.Post), .sl 2 (List.map Qd p0.Code), .sl 2 (List.map Qc p0.Points)]), (18, .cp [.sl 2 (List.map Qd p0.Code)]), (19, .sl 2 (List.map Qd p0.Code))], [(11, .box [.snil, .snil, .snil, .snil])]⟩ ?_ (fun hS7292_37 => ?_)
  ·refine Qz [4, 8, 10, 17] (by kernel_rfl) rfl ?_
   refine ⟨?_, ?_, ?_, ?_⟩
   ·refine ⟨_, rfl, ?_⟩
    refine Qt [(1000, 7693)] (ACall.F (F := F) (Qp p0.Pre r9 hr9)) Try.call104 rfl rfl rfl rfl rfl rfl rfl rfl rfl rfl rfl rfl rfl ?_
    refine Qe ?_
    refine Ql [0, 2, 5, 6, 7, 8, 9, 10, 11, 12, 16, 17, 18, 19] [11, 7693] rfl rfl rfl rfl (by rw [hF]; rfl) ?_
    exact hS7292_21
   ·refine ⟨_, rfl, ?_⟩
    refine Qb rfl rfl rfl rfl (Qg ag66 rfl rfl) ?_
    refine Qe ?_
    refine Ql [0, 2, 5, 6, 7, 8, 10, 11, 12, 13, 16, 17, 18, 19] [11] rfl rfl rfl rfl (by rw [hF]; rfl) ?_
    exact hS7292_29
   ·refine ⟨_, rfl, ?_⟩
    refine QE 8173 (es := List.map Qd ([] : List Instr)) el24 z40 rfl rfl rfl rfl rfl rfl rfl rfl rfl ?_
    refine Qe ?_
    refine Ql [0, 2, 5, 6, 7, 8, 10, 11, 12, 15, 16, 17, 18, 19] [11, 8173] rfl rfl rfl rfl (by rw [hF]; rfl) ?_
    exact hS7292_35
   ·refine ⟨_, rfl, ?_⟩
    refine QJ 8733 z69 rfl rfl rfl rfl rfl rfl rfl ?_
    refine Qe ?_
    refine Ql [0, 2, 3, 5, 6, 7, 8, 10, 11, 12, 16, 17, 18, 19] [11, 8733] rfl rfl rfl rfl (by rw [hF]; rfl) ?_
    exact hS7292_36
  refine Qy 7 [true, true, true, true, false, true, true, true, false, false, true, true, true, true, false, false, false, true, false] ⟨[(0, .cp [.sl 2 (List.map Qa p0.Pre), .sl 2 (List.map Qa p0.Post), .sl 2 (List.map Qd p0.Code), .sl 2 (List.map Qc p0.Points)]), (2, .ptr 11 0 0), (3, .ptr 8733 0 0), (5, .cp [.sl 2 (List.map Qa p0.Pre), .sl 2 (List.map Qa p0.Post), .sl 2 (List.map Qd p0.Code), .sl 2 (List.map Qc p0.Points)]), (6, .cp [.sl 2 (List.map Qa p0.Pre), .sl 2 (List.map Qa p0.Post), .sl 2 (List.map Qd p0.Code), .sl 2 (List.map Qc p0.Points)]), (7, .cp [.sl 2 (List.map Qa p0.Pre)]), (8, .sl 2 (List.map Qa p0.Pre)), (10, .cp [.sl 2 (List.map Qa p0.Pre), .sl 2 (List.map Qa p0.Post), .sl 2 (List.map Qd p0.Code), .sl 2 (List.map Qc p0.Points)]), (11, .cp [.sl 2 (List.map Qa p0.Pre), .sl 2 (List.map Qa p0.Post), .sl 2 (List.map Qd p0.Code), .sl 2 (List.map Qc p0.Points)]), (12, .cp [.sl 2 (List.map Qa p0.Post)]), (15, .ow 8173), (16, .cp [.sl 2 (List.map Qa p0.Pre), .sl 2 (List.map Qa p0.Post), .sl 2 (List.map Qd p0.Code), .sl 2 (List.map Qc p0.Points)]), (17, .cp [.sl 2 (List.map Qa p0.Pre), .sl 2 (List.map Qa p0.Post), .sl 2 (List.map Qd p0.Code), .sl 2 (List.map Qc p0.Points)]), (18, .cp [.sl 2 (List.map Qd p0.Code)])], [(11, .box [.snil, .snil, .snil, .snil]), (8173, .arr ⟨false, false⟩ 2 40 (List.map Qd ([] : List Instr))), (8733, .box [.snil, .snil, .snil, .snil])]⟩ ?_ (fun hS7292_38 => ?_)
  ·refine Qn 14 (by kernel_rfl) rfl rfl rfl rfl rfl (Qg ag24 rfl rfl) ?_
   refine Qz [4, 8] (by kernel_rfl) rfl ?_
   refine ⟨?_, ?_⟩
   ·refine ⟨_, rfl, ?_⟩
    refine Qt [(1000, 7693)] (ACall.F (F := F) (Qp p0.Pre r9 hr9)) Try.call104 rfl rfl rfl rfl rfl rfl rfl rfl rfl rfl rfl rfl rfl ?_
    refine Qe ?_
    refine Ql [0, 2, 3, 5, 6, 7, 8, 9, 10, 11, 12, 15, 16, 17, 18, 19] [11, 7693, 8173, 8733] rfl rfl rfl rfl (by rw [hF]; rfl) ?_
    exact hS7292_17
   ·refine ⟨_, rfl, ?_⟩
    refine Qb rfl rfl rfl rfl (Qg ag66 rfl rfl) ?_
    refine Qe ?_
    refine Ql [0, 2, 3, 5, 6, 7, 8, 10, 11, 12, 13, 15, 16, 17, 18, 19] [11, 8173, 8733] rfl rfl rfl rfl (by rw [hF]; rfl) ?_
    exact hS7292_25
  refine Qy 8 [true, true, true, true, false, true, true, true, false, false, false, true, true, true, false, false, false, true, false] ⟨[(0, .cp [.sl 2 (List.map Qa p0.Pre), .sl 2 (List.map Qa p0.Post), .sl 2 (List.map Qd p0.Code), .sl 2 (List.map Qc p0.Points)]), (2, .ptr 11 0 0), (3, .ptr 8733 0 0), (5, .cp [.sl 2 (List.map Qa p0.Pre), .sl 2 (List.map Qa p0.Post), .sl 2 (List.map Qd p0.Code), .sl 2 (List.map Qc p0.Points)]), (6, .cp [.sl 2 (List.map Qa p0.Pre), .sl 2 (List.map Qa p0.Post), .sl 2 (List.map Qd p0.Code), .sl 2 (List.map Qc p0.Points)]), (7, .cp [.sl 2 (List.map Qa p0.Pre)]), (8, .sl 2 (List.map Qa p0.Pre)), (10, .cp [.sl 2 (List.map Qa p0.Pre), .sl 2 (List.map Qa p0.Post), .sl 2 (List.map Qd p0.Code), .sl 2 (List.map Qc p0.Points)]), (11, .cp [.sl 2 (List.map Qa p0.Pre), .sl 2 (List.map Qa p0.Post), .sl 2 (List.map Qd p0.Code), .sl 2 (List.map Qc p0.Points)]), (12, .cp [.sl 2 (List.map Qa p0.Post)]), (16, .cp [.sl 2 (List.map Qa p0.Pre), .sl 2 (List.map Qa p0.Post), .sl 2 (List.map Qd p0.Code), .sl 2 (List.map Qc p0.Points)]), (17, .cp [.sl 2 (List.map Qa p0.Pre), .sl 2 (List.map Qa p0.Post), .sl 2 (List.map Qd p0.Code), .sl 2 (List.map Qc p0.Points)]), (18, .cp [.sl 2 (List.map Qd p0.Code)])], [(11, .box [.snil, .snil, .snil, .snil]), (8733, .box [.snil, .snil, .snil, .snil])]⟩ ?_ (fun hS7292_39 => ?_)
  ·refine Qz [4, 8, 10, 14] (by kernel_rfl) rfl ?_
   refine ⟨?_, ?_, ?_, ?_⟩
   ·refine ⟨_, rfl, ?_⟩
    refine Qt [(1000, 7693)] (ACall.F (F := F) (Qp p0.Pre r9 hr9)) Try.call104 rfl rfl rfl rfl rfl rfl rfl rfl rfl rfl rfl rfl rfl ?_
    refine Qe ?_
    refine Ql [0, 2, 3, 5, 6, 7, 8, 9, 10, 11, 12, 16, 17, 18] [11, 7693, 8733] rfl rfl rfl rfl (by rw [hF]; rfl) ?_
    exact hS7292_23
   ·refine ⟨_, rfl, ?_⟩
    refine Qb rfl rfl rfl rfl (Qg ag66 rfl rfl) ?_
    refine Qe ?_
    refine Ql [0, 2, 3, 5, 6, 7, 8, 10, 11, 12, 13, 16, 17, 18] [11, 8733] rfl rfl rfl rfl (by rw [hF]; rfl) ?_
    exact hS7292_31
   ·refine ⟨_, rfl, ?_⟩
    refine QE 8173 (es := List.map Qd ([] : List Instr)) el24 z40 rfl rfl rfl rfl rfl rfl rfl rfl rfl ?_
    refine Qe ?_
    refine Ql [0, 2, 3, 5, 6, 7, 8, 10, 11, 12, 15, 16, 17, 18] [11, 8173, 8733] rfl rfl rfl rfl (by rw [hF]; rfl) ?_
    exact hS7292_38
   ·refine ⟨_, rfl, ?_⟩
    refine Qb rfl rfl rfl rfl (Qg ag24 rfl rfl) ?_
    refine Qe ?_
    refine Ql [0, 2, 3, 5, 6, 7, 8, 10, 11, 12, 16, 17, 18, 19] [11, 8733] rfl rfl rfl rfl (by rw [hF]; rfl) ?_
    exact hS7292_36
  refine Qy 9 [true, true, true, true, false, true, true, true, false, false, false, true, true, true, false, false, false, false, false] ⟨[(0, .cp [.sl 2 (List.map Qa p0.Pre), .sl 2 (List.map Qa p0.Post), .sl 2 (List.map Qd p0.Code), .sl 2 (List.map Qc p0.Points)]), (2, .ptr 11 0 0), (5, .cp [.sl 2 (List.map Qa p0.Pre), .sl 2 (List.map Qa p0.Post), .sl 2 (List.map Qd p0.Code), .sl 2 (List.map Qc p0.Points)]), (6, .cp [.sl 2 (List.map Qa p0.Pre), .sl 2 (List.map Qa p0.Post), .sl 2 (List.map Qd p0.Code), .sl 2 (List.map Qc p0.Points)]), (7, .cp [.sl 2 (List.map Qa p0.Pre)]), (8, .sl 2 (List.map Qa p0.Pre)), (10, .cp [.sl 2 (List.map Qa p0.Pre), .sl 2 (List.map Qa p0.Post), .sl 2 (List.map Qd p0.Code), .sl 2 (List.map Qc p0.Points)]), (11, .cp [.sl 2 (List.map Qa p0.Pre), .sl 2 (List.map Qa p0.Post), .sl 2 (List.map Qd p0.Code), .sl 2 (List.map Qc p0.Points)]), (12, .cp [.sl 2 (List.map Qa p0.Post)]), (16, .cp [.sl 2 (List.map Qa p0.Pre), .sl 2 (List.map Qa p0.Post), .sl 2 (List.map Qd p0.Code), .sl 2 (List.map Qc p0.Points)]), (17, .cp [.sl 2 (List.map Qa p0.Pre), .sl 2 (List.map Qa p0.Post), .sl 2 (List.map Qd p0.Code), .sl 2 (List.map Qc p0.Points)]), (18, .cp [.sl 2 (List.map Qd p0.Code)])], [(11, .box [.snil, .snil, .snil, .snil])]⟩ ?_ (fun hS7292_40 => ?_)
  ·refine Qz [4, 8, 10, 14, 17] (by kernel_rfl) rfl ?_
   refine ⟨?_, ?_, ?_, ?_, ?_⟩
   ·refine ⟨_, rfl, ?_⟩
    refine Qt [(1000, 7693)] (ACall.F (F := F) (Qp p0.Pre r9 hr9)) Try.call104 rfl rfl rfl rfl rfl rfl rfl rfl rfl rfl rfl rfl rfl ?_
    refine Qe ?_
    refine Ql [0, 2, 5, 6, 7, 8, 9, 10, 11, 12, 16, 17, 18] [11, 7693] rfl rfl rfl rfl (by rw [hF]; rfl) ?_
    exact hS7292_24
   ·refine ⟨_, rfl, ?_⟩
    refine Qb rfl rfl rfl rfl (Qg ag66 rfl rfl) ?_
    refine Qe ?_
    refine Ql [0, 2, 5, 6, 7, 8, 10, 11, 12, 13, 16, 17, 18] [11] rfl rfl rfl rfl (by rw [hF]; rfl) ?_
    exact hS7292_32
   ·refine ⟨_, rfl, ?_⟩
    refine QE 8173 (es := List.map Qd ([] : List Instr)) el24 z40 rfl rfl rfl rfl rfl rfl rfl rfl rfl ?_
    refine Qe ?_
    refine Ql [0, 2, 5, 6, 7, 8, 10, 11, 12, 15, 16, 17, 18] [11, 8173] rfl rfl rfl rfl (by rw [hF]; rfl) ?_
    exact hS7292_34
   ·refine ⟨_, rfl, ?_⟩
    refine Qb rfl rfl rfl rfl (Qg ag24 rfl rfl) ?_
    refine Qe ?_
    refine Ql [0, 2, 5, 6, 7, 8, 10, 11, 12, 16, 17, 18, 19] [11] rfl rfl rfl rfl (by rw [hF]; rfl) ?_
    exact hS7292_37
   ·refine ⟨_, rfl, ?_⟩
    refine QJ 8733 z69 rfl rfl rfl rfl rfl rfl rfl ?_
    refine Qe ?_
    refine Ql [0, 2, 3, 5, 6, 7, 8, 10, 11, 12, 16, 17, 18] [11, 8733] rfl rfl rfl rfl (by rw [hF]; rfl) ?_
    exact hS7292_39
  refine Qy 6 [true, true, true, false, false, true, true, true, true, false, true, true, true, true, true, false, false, true, false] ⟨[(0, .cp [.sl 2 (List.map Qa p0.Pre), .sl 2 (List.map Qa p0.Post), .sl 2 (List.map Qd p0.Code), .sl 2 (List.map Qc p0.Points)]), (2, .ptr 11 0 0), (3, .ptr 8733 0 0), (5, .cp [.sl 2 (List.map Qa p0.Pre), .sl 2 (List.map Qa p0.Post), .sl 2 (List.map Qd p0.Code), .sl 2 (List.map Qc p0.Points)]), (6, .cp [.sl 2 (List.map Qa p0.Pre), .sl 2 (List.map Qa p0.Post), .sl 2 (List.map Qd p0.Code), .sl 2 (List.map Qc p0.Points)]), (7, .cp [.sl 2 (List.map Qa p0.Pre)]), (10, .cp [.sl 2 (List.map Qa p0.Pre), .sl 2 (List.map Qa p0.Post), .sl 2 (List.map Qd p0.Code), .sl 2 (List.map Qc p0.Points)]), (11, .cp [.sl 2 (List.map Qa p0.Pre), .sl 2 (List.map Qa p0.Post), .sl 2 (List.map Qd p0.Code), .sl 2 (List.map Qc p0.Points)]), (12, .cp [.sl 2 (List.map Qa p0.Post)]), (13, .sl 2 (List.map Qa p0.Post)), (15, .ow 8173), (16, .cp [.sl 2 (List.map Qa p0.Pre), .sl 2 (List.map Qa p0.Post), .sl 2 (List.map Qd p0.Code), .sl 2 (List.map Qc p0.Points)]), (17, .cp [.sl 2 (List.map Qa p0.Pre), .sl 2 (List.map Qa p0.Post), .sl 2 (List.map Qd p0.Code), .sl 2 (List.map Qc p0.Points)]), (18, .cp [.sl 2 (List.map Qd p0.Code)]), (19, .sl 2 (List.map Qd p0.Code))], [(11, .box [.snil, .snil, .snil, .snil]), (8173, .arr ⟨false, false⟩ 2 40 (List.map Qd ([] : List Instr))), (8733, .box [.snil, .snil, .snil, .snil])]⟩ ?_ (fun hS7292_41 => ?_)
  ·refine Qs 3 (by kernel_rfl) rfl ?_
   refine Qb rfl rfl rfl rfl (Qg ag66 rfl rfl) ?_
   refine Qe ?_
   refine Qs 4 (by kernel_rfl) rfl ?_
   refine Qt [(1000, 7693)] (ACall.F (F := F) (Qp p0.Pre r9 hr9)) Try.call104 rfl rfl rfl rfl rfl rfl rfl rfl rfl rfl rfl rfl rfl ?_
   refine Qe ?_
   refine Qs 9 (by kernel_rfl) rfl ?_
   refine Qt [(1000, 8093)] (ACall.F (F := F) (Qp p0.Post r14 hr14)) Try.call104 rfl rfl rfl rfl rfl rfl rfl rfl rfl rfl rfl rfl rfl ?_
   refine Qe ?_
   refine Qs 15 (by kernel_rfl) rfl ?_
   refine Xn (f := Qd) (a := ([] : List Instr)) (b := p0.Code) el24 z40 rfl rfl rfl rfl rfl rfl rfl (Q9 hq20) rfl rfl rfl rfl rfl ?_
   refine Qe ?_
   refine Qn 16 (by kernel_rfl) rfl rfl rfl rfl rfl (Q3 pl69 z69 rfl rfl rfl rfl rfl) ?_
   refine Qs 18 (by kernel_rfl) rfl ?_
   refine Qo sz69 rfl rfl rfl rfl rfl rfl rfl rfl rfl ?_
   refine Qe ?_
   refine QX (by kernel_rfl) ?_
   refine Qm [0, 2, 3] [11, 7693, 8093, 8173, 8733] rfl rfl rfl rfl (by rw [hF]; rfl) ?_
   refine T_ren [(11, 11), (7693, 412), (8093, 812), (8173, 892), (8733, 1452)] rfl rfl rfl (by rw [hF]; rfl) ?_
   exact hj0 (r9, r14) hm
  refine Qy 8 [true, true, true, false, false, true, true, true, true, false, true, true, true, true, false, false, false, false, false] ⟨[(0, .cp [.sl 2 (List.map Qa p0.Pre), .sl 2 (List.map Qa p0.Post), .sl 2 (List.map Qd p0.Code), .sl 2 (List.map Qc p0.Points)]), (2, .ptr 11 0 0), (5, .cp [.sl 2 (List.map Qa p0.Pre), .sl 2 (List.map Qa p0.Post), .sl 2 (List.map Qd p0.Code), .sl 2 (List.map Qc p0.Points)]), (6, .cp [.sl 2 (List.map Qa p0.Pre), .sl 2 (List.map Qa p0.Post), .sl 2 (List.map Qd p0.Code), .sl 2 (List.map Qc p0.Points)]), (7, .cp [.sl 2 (List.map Qa p0.Pre)]), (10, .cp [.sl 2 (List.map Qa p0.Pre), .sl 2 (List.map Qa p0.Post), .sl 2 (List.map Qd p0.Code), .sl 2 (List.map Qc p0.Points)]), (11, .cp [.sl 2 (List.map Qa p0.Pre), .sl 2 (List.map Qa p0.Post), .sl 2 (List.map Qd p0.Code), .sl 2 (List.map Qc p0.Points)]), (12, .cp [.sl 2 (List.map Qa p0.Post)]), (13, .sl 2 (List.map Qa p0.Post)), (15, .ow 8173), (16, .cp [.sl 2 (List.map Qa p0.Pre), .sl 2 (List.map Qa p0.Post), .sl 2 (List.map Qd p0.Code), .sl 2 (List.map Qc p0.Points)]), (17, .cp [.sl 2 (List.map Qa p0.Pre), .sl 2 (List.map Qa p0.Post), .sl 2 (List.map Qd p0.Code), .sl 2 (List.map Qc p0.Points)]), (18, .cp [.sl 2 (List.map Qd p0.Code)])], [(11, .box [.snil, .snil, .snil, .snil]), (8173, .arr ⟨false, false⟩ 2 40 (List.map Qd ([] : List Instr)))]⟩ ?_ (fun hS7292_42 => ?_)
  ·refine Qn 14 (by kernel_rfl) rfl rfl rfl rfl rfl (Qg ag24 rfl rfl) ?_
   refine Qz [3, 17] (by kernel_rfl) rfl ?_
   refine ⟨?_, ?_⟩
   ·refine ⟨_, rfl, ?_⟩
    refine Qb rfl rfl rfl rfl (Qg ag66 rfl rfl) ?_
    refine Qe ?_
    refine Ql [0, 2, 5, 6, 7, 8, 10, 11, 12, 13, 15, 16, 17, 18, 19] [11, 8173] rfl rfl rfl rfl (by rw [hF]; rfl) ?_
    exact hS7292_27
   ·refine ⟨_, rfl, ?_⟩
    refine QJ 8733 z69 rfl rfl rfl rfl rfl rfl rfl ?_
    refine Qe ?_
    refine Ql [0, 2, 3, 5, 6, 7, 10, 11, 12, 13, 15, 16, 17, 18, 19] [11, 8173, 8733] rfl rfl rfl rfl (by rw [hF]; rfl) ?_
    exact hS7292_41
  refine Qy 7 [true, true, true, false, false, true, true, true, true, false, true, true, true, true, true, false, false, false, false] ⟨[(0, .cp [.sl 2 (List.map Qa p0.Pre), .sl 2 (List.map Qa p0.Post), .sl 2 (List.map Qd p0.Code), .sl 2 (List.map Qc p0.Points)]), (2, .ptr 11 0 0), (5, .cp [.sl 2 (List.map Qa p0.Pre), .sl 2 (List.map Qa p0.Post), .sl 2 (List.map Qd p0.Code), .sl 2 (List.map Qc p0.Points)]), (6, .cp [.sl 2 (List.map Qa p0.Pre), .sl 2 (List.map Qa p0.Post), .sl 2 (List.map Qd p0.Code), .sl 2 (List.map Qc p0.Points)]), (7, .cp [.sl 2 (List.map Qa p0.Pre)]), (10, .cp [.sl 2 (List.map Qa p0.Pre), .sl 2 (List.map Qa p0.Post), .sl 2 (List.map Qd p0.Code), .sl 2 (List.map Qc p0.Points)]), (11, .cp [.sl 2 (List.map Qa p0.Pre), .sl 2 (List.map Qa p0.Post), .sl 2 (List.map Qd p0.Code), .sl 2 (List.map Qc p0.Points)]), (12, .cp [.sl 2 (List.map Qa p0.Post)]), (13, .sl 2 (List.map Qa p0.Post)), (15, .ow 8173), (16, .cp [.sl 2 (List.map Qa p0.Pre), .sl 2 (List.map Qa p0.Post), .sl 2 (List.map Qd p0.Code), .sl 2 (List.map Qc p0.Points)]), (17, .cp [.sl 2 (List.map Qa p0.Pre), .sl 2 (List.map Qa p0.Post), .sl 2 (List.map Qd p0.Code), .sl 2 (List.map Qc p0.Points)]), (18, .cp [.sl 2 (List.map Qd p0.Code)]), (19, .sl 2 (List.map Qd p0.Code))], [(11, .box [.snil, .snil, .snil, .snil]), (8173, .arr ⟨false, false⟩ 2 40 (List.map Qd ([] : List Instr)))]⟩ ?_ (fun hS7292_43 => ?_)
  ·refine Qz [3, 17] (by kernel_rfl) rfl ?_
   refine ⟨?_, ?_⟩
   ·refine ⟨_, rfl, ?_⟩
    refine Qb rfl rfl rfl rfl (Qg ag66 rfl rfl) ?_
    refine Qe ?_
    refine Ql [0, 2, 5, 6, 7, 8, 10, 11, 12, 13, 15, 16, 17, 18, 19] [11, 8173] rfl rfl rfl rfl (by rw [hF]; rfl) ?_
    exact hS7292_27
   ·refine ⟨_, rfl, ?_⟩
    refine QJ 8733 z69 rfl rfl rfl rfl rfl rfl rfl ?_
    refine Qe ?_
    refine Ql [0, 2, 3, 5, 6, 7, 10, 11, 12, 13, 15, 16, 17, 18, 19] [11, 8173, 8733] rfl rfl rfl rfl (by rw [hF]; rfl) ?_
    exact hS7292_41
  refine Qy 7 [true, true, true, false, false, true, true, true, true, false, false, true, true, true, true, false, false, true, false] ⟨[(0, .cp [.sl 2 (List.map Qa p0.Pre), .sl 2 (List.map Qa p0.Post), .sl 2 (List.map Qd p0.Code), .sl 2 (List.map Qc p0.Points)]), (2, .ptr 11 0 0), (3, .ptr 8733 0 0), (5, .cp [.sl 2 (List.map Qa p0.Pre), .sl 2 (List.map Qa p0.Post), .sl 2 (List.map Qd p0.Code), .sl 2 (List.map Qc p0.Points)]), (6, .cp [.sl 2 (List.map Qa p0.Pre), .sl 2 (List.map Qa p0.Post), .sl 2 (List.map Qd p0.Code), .sl 2 (List.map Qc p0.Points)]), (7, .cp [.sl 2 (List.map Qa p0.Pre)]), (10, .cp [.sl 2 (List.map Qa p0.Pre), .sl 2 (List.map Qa p0.Post), .sl 2 (List.map Qd p0.Code), .sl 2 (List.map Qc p0.Points)]), (11, .cp [.sl 2 (List.map Qa p0.Pre), .sl 2 (List.map Qa p0.Post), .sl 2 (List.map Qd p0.Code), .sl 2 (List.map Qc p0.Points)]), (12, .cp [.sl 2 (List.map Qa p0.Post)]), (13, .sl 2 (List.map Qa p0.Post)), (16, .cp [.sl 2 (List.map Qa p0.Pre), .sl 2 (List.map Qa p0.Post), .sl 2 (List.map Qd p0.Code), .sl 2 (List.map Qc p0.Points)]), (17, .cp [.sl 2 (List.map Qa p0.Pre), .sl 2 (List.map Qa p0.Post), .sl 2 (List.map Qd p0.Code), .sl 2 (List.map Qc p0.Points)]), (18, .cp [.sl 2 (List.map Qd p0.Code)]), (19, .sl 2 (List.map Qd p0.Code))], [(11, .box [.snil, .snil, .snil, .snil]), (8733, .box [.snil, .snil, .snil, .snil])]⟩ ?_ (fun hS7292_44 => ?_)
  ·refine Qz [3, 10] (by kernel_rfl) rfl ?_
   refine ⟨?_, ?_⟩
   ·refine ⟨_, rfl, ?_⟩
    refine Qb rfl rfl rfl rfl (Qg ag66 rfl rfl) ?_
    refine Qe ?_
    refine Ql [0, 2, 3, 5, 6, 7, 8, 10, 11, 12, 13, 16, 17, 18, 19] [11, 8733] rfl rfl rfl rfl (by rw [hF]; rfl) ?_
    exact hS7292_28
   ·refine ⟨_, rfl, ?_⟩
    refine QE 8173 (es := List.map Qd ([] : List Instr)) el24 z40 rfl rfl rfl rfl rfl rfl rfl rfl rfl ?_
    refine Qe ?_
    refine Ql [0, 2, 3, 5, 6, 7, 10, 11, 12, 13, 15, 16, 17, 18, 19] [11, 8173, 8733] rfl rfl rfl rfl (by rw [hF]; rfl) ?_
    exact hS7292_41
  refine Qy 8 [true, true, true, false, false, true, true, true, true, false, false, true, true, true, true, false, false, false, false] ⟨[(0, .cp [.sl 2 (List.map Qa p0.Pre), .sl 2 (List.map Qa p0.Post), .sl 2 (List.map Qd p0.Code), .sl 2 (List.map Qc p0.Points)]), (2, .ptr 11 0 0), (5, .cp [.sl 2 (List.map Qa p0.Pre), .sl 2 (List.map Qa p0.Post), .sl 2 (List.map Qd p0.Code), .sl 2 (List.map Qc p0.Points)]), (6, .cp [.sl 2 (List.map Qa p0.Pre), .sl 2 (List.map Qa p0.Post), .sl 2 (List.map Qd p0.Code), .sl 2 (List.map Qc p0.Points)]), (7, .cp [.sl 2 (List.map Qa p0.Pre)]), (10, .cp [.sl 2 (List.map Qa p0.Pre), .sl 2 (List.map Qa p0.Post), .sl 2 (List.map Qd p0.Code), .sl 2 (List.map Qc p0.Points)]), (11, .cp [.sl 2 (List.map Qa p0.Pre), .sl 2 (List.map Qa p0.Post), .sl 2 (List.map Qd p0.Code), .sl 2 (List.map Qc p0.Points)]), (12, .cp [.sl 2 (List.map Qa p0.Post)]), (13, .sl 2 (List.map Qa p0.Post)), (16, .cp [.sl 2 (List.map Qa p0.Pre), .sl 2 (List.map Qa p0.Post), .sl 2 (List.map Qd p0.Code), .sl 2 (List.map Qc p0.Points)]), (17, .cp [.sl 2 (List.map Qa p0.Pre), .sl 2 (List.map Qa p0.Post), .sl 2 (List.map Qd p0.Code), .sl 2 (List.map Qc p0.Points)]), (18, .cp [.sl 2 (List.map Qd p0.Code)]), (19, .sl 2 (List.map Qd p0.Code))], [(11, .box [.snil, .snil, .snil, .snil])]⟩ ?_ (fun hS7292_45 => ?_)
  ·refine Qz [3, 10, 17] (by kernel_rfl) rfl ?_
   refine ⟨?_, ?_, ?_⟩
   ·refine ⟨_, rfl, ?_⟩
    refine Qb rfl rfl rfl rfl (Qg ag66 rfl rfl) ?_
    refine Qe ?_
    refine Ql [0, 2, 5, 6, 7, 8, 10, 11, 12, 13, 16, 17, 18, 19] [11] rfl rfl rfl rfl (by rw [hF]; rfl) ?_
    exact hS7292_29
   ·refine ⟨_, rfl, ?_⟩
    refine QE 8173 (es := List.map Qd ([] : List Instr)) el24 z40 rfl rfl rfl rfl rfl rfl rfl rfl rfl ?_
    refine Qe ?_
    refine Ql [0, 2, 5, 6, 7, 10, 11, 12, 13, 15, 16, 17, 18, 19] [11, 8173] rfl rfl rfl rfl (by rw [hF]; rfl) ?_
    exact hS7292_43
   ·refine ⟨_, rfl, ?_⟩
    refine QJ 8733 z69 rfl rfl rfl rfl rfl rfl rfl ?_
    refine Qe ?_
    refine Ql [0, 2, 3, 5, 6, 7, 10, 11, 12, 13, 16, 17, 18, 19] [11, 8733] rfl rfl rfl rfl (by rw [hF]; rfl) ?_
    exact hS7292_44
  refine Qy 7 [true, true, true, false, false, true, true, true, true, false, true, true, true, true, false, false, false, true, false] ⟨[(0, .cp [.sl 2 (List.map Qa p0.Pre), .sl 2 (List.map Qa p0.Post), .sl 2 (List.map Qd p0.Code), .sl 2 (List.map Qc p0.Points)]), (2, .ptr 11 0 0), (3, .ptr 8733 0 0), (5, .cp [.sl 2 (List.map Qa p0.Pre), .sl 2 (List.map Qa p0.Post), .sl 2 (List.map Qd p0.Code), .sl 2 (List.map Qc p0.Points)]), (6, .cp [.sl 2 (List.map Qa p0.Pre), .sl 2 (List.map Qa p0.Post), .sl 2 (List.map Qd p0.Code), .sl 2 (List.map Qc p0.Points)]), (7, .cp [.sl 2 (List.map Qa p0.Pre)]), (10, .cp [.sl 2 (List.map Qa p0.Pre), .sl 2 (List.map Qa p0.Post), .sl 2 (List.map Qd p0.Code), .sl 2 (List.map Qc p0.Points)]), (11, .cp [.sl 2 (List.map Qa p0.Pre), .sl 2 (List.map Qa p0.Post), .sl 2 (List.map Qd p0.Code), .sl 2 (List.map Qc p0.Points)]), (12, .cp [.sl 2 (List.map Qa p0.Post)]), (13, .sl 2 (List.map Qa p0.Post)), (15, .ow 8173), (16, .cp [.sl 2 (List.map Qa p0.Pre), .sl 2 (List.map Qa p0.Post), .sl 2 (List.map Qd p0.Code), .sl 2 (List.map Qc p0.Points)]), (17, .cp [.sl 2 (List.map Qa p0.Pre), .sl 2 (List.map Qa p0.Post), .sl 2 (List.map Qd p0.Code), .sl 2 (List.map Qc p0.Points)]), (18, .cp [.sl 2 (List.map Qd p0.Code)])], [(11, .box [.snil, .snil, .snil, .snil]), (8173, .arr ⟨false, false⟩ 2 40 (List.map Qd ([] : List Instr))), (8733, .box [.snil, .snil, .snil, .snil])]⟩ ?_ (fun hS7292_46 => ?_)
  ·refine Qn 14 (by kernel_rfl) rfl rfl rfl rfl rfl (Qg ag24 rfl rfl) ?_
   refine Qs 3 (by kernel_rfl) rfl ?_
   refine Qb rfl rfl rfl rfl (Qg ag66 rfl rfl) ?_
   refine Qe ?_
   refine Qs 4 (by kernel_rfl) rfl ?_
   refine Qt [(1000, 7693)] (ACall.F (F := F) (Qp p0.Pre r9 hr9)) Try.call104 rfl rfl rfl rfl rfl rfl rfl rfl rfl rfl rfl rfl rfl ?_
   refine Qe ?_
   refine Qs 9 (by kernel_rfl) rfl ?_
   refine Qt [(1000, 8093)] (ACall.F (F := F) (Qp p0.Post r14 hr14)) Try.call104 rfl rfl rfl rfl rfl rfl rfl rfl rfl rfl rfl rfl rfl ?_
   refine Qe ?_
   refine Qs 15 (by kernel_rfl) rfl ?_
   refine Xn (f := Qd) (a := ([] : List Instr)) (b := p0.Code) el24 z40 rfl rfl rfl rfl rfl rfl rfl (Q9 hq20) rfl rfl rfl rfl rfl ?_
   refine Qe ?_
   refine Qn 16 (by kernel_rfl) rfl rfl rfl rfl rfl (Q3 pl69 z69 rfl rfl rfl rfl rfl) ?_
   refine Qs 18 (by kernel_rfl) rfl ?_
   refine Qo sz69 rfl rfl rfl rfl rfl rfl rfl rfl rfl ?_
   refine Qe ?_
   refine QX (by kernel_rfl) ?_
   refine Qm [0, 2, 3] [11, 7693, 8093, 8173, 8733] rfl rfl rfl rfl (by rw [hF]; rfl) ?_
   refine T_ren [(11, 11), (7693, 412), (8093, 812), (8173, 892), (8733, 1452)] rfl rfl rfl (by rw [hF]; rfl) ?_
   exact hj0 (r9, r14) hm
  refine Qy 8 [true, true, true, false, false, true, true, true, true, false, false, true, true, true, false, false, false, true, false] ⟨[(0, .cp [.sl 2 (List.map Qa p0.Pre), .sl 2 (List.map Qa p0.Post), .sl 2 (List.map Qd p0.Code), .sl 2 (List.map Qc p0.Points)]), (2, .ptr 11 0 0), (3, .ptr 8733 0 0), (5, .cp [.sl 2 (List.map Qa p0.Pre), .sl 2 (List.map Qa p0.Post), .sl 2 (List.map Qd p0.Code), .sl 2 (List.map Qc p0.Points)]), (6, .cp [.sl 2 (List.map Qa p0.Pre), .sl 2 (List.map Qa p0.Post), .sl 2 (List.map Qd p0.Code), .sl 2 (List.map Qc p0.Points)]), (7, .cp [.sl 2 (List.map Qa p0.Pre)]), (10, .cp [.sl 2 (List.map Qa p0.Pre), .sl 2 (List.map Qa p0.Post), .sl 2 (List.map Qd p0.Code), .sl 2 (List.map Qc p0.Points)]), (11, .cp [.sl 2 (List.map Qa p0.Pre), .sl 2 (List.map Qa p0.Post), .sl 2 (List.map Qd p0.Code), .sl 2 (List.map Qc p0.Points)]), (12, .cp [.sl 2 (List.map Qa p0.Post)]), (13, .sl 2 (List.map Qa p0.Post)), (16, .cp [.sl 2 (List.map Qa p0.Pre), .sl 2 (List.map Qa p0.Post), .sl 2 (List.map Qd p0.Code), .sl 2 (List.map Qc p0.Points)]), (17, .cp [.sl 2 (List.map Qa p0.Pre), .sl 2 (List.map Qa p0.Post), .sl 2 (List.map Qd p0.Code), .sl 2 (List.map Qc p0.Points)]), (18, .cp [.sl 2 (List.map Qd p0.Code)])], [(11, .box [.snil, .snil, .snil, .snil]), (8733, .box [.snil, .snil, .snil, .snil])]⟩ ?_ (fun hS7292_47 => ?_)
  ·refine Qz [3, 10, 14] (by kernel_rfl) rfl ?_
   refine ⟨?_, ?_, ?_⟩
   ·refine ⟨_, rfl, ?_⟩
    refine Qb rfl rfl rfl rfl (Qg ag66 rfl rfl) ?_
    refine Qe ?_
    refine Ql [0, 2, 3, 5, 6, 7, 8, 10, 11, 12, 13, 16, 17, 18] [11, 8733] rfl rfl rfl rfl (by rw [hF]; rfl) ?_
    exact hS7292_31
   ·refine ⟨_, rfl, ?_⟩
    refine QE 8173 (es := List.map Qd ([] : List Instr)) el24 z40 rfl rfl rfl rfl rfl rfl rfl rfl rfl ?_
    refine Qe ?_
    refine Ql [0, 2, 3, 5, 6, 7, 10, 11, 12, 13, 15, 16, 17, 18] [11, 8173, 8733] rfl rfl rfl rfl (by rw [hF]; rfl) ?_
    exact hS7292_46
   ·refine ⟨_, rfl, ?_⟩
    refine Qb rfl rfl rfl rfl (Qg ag24 rfl rfl) ?_
    refine Qe ?_
    refine Ql [0, 2, 3, 5, 6, 7, 10, 11, 12, 13, 16, 17, 18, 19] [11, 8733] rfl rfl rfl rfl (by rw [hF]; rfl) ?_
    exact hS7292_44
  refine Qy 9 [true, true, true, false, false, true, true, true, true, false, false, true, true, true, false, false, false, false, false] ⟨[(0, .cp [.sl 2 (List.map Qa p0.Pre), .sl 2 (List.map Qa p0.Post), .sl 2 (List.map Qd p0.Code), .sl 2 (List.map Qc p0.Points)]), (2, .ptr 11 0 0), (5, .cp [.sl 2 (List.map Qa p0.Pre), .sl 2 (List.map Qa p0.Post), .sl 2 (List.map Qd p0.Code), .sl 2 (List.map Qc p0.Points)]), (6, .cp [.sl 2 (List.map Qa p0.Pre), .sl 2 (List.map Qa p0.Post), .sl 2 (List.map Qd p0.Code), .sl 2 (List.map Qc p0.Points)]), (7, .cp [.sl 2 (List.map Qa p0.Pre)]), (10, .cp [.sl 2 (List.map Qa p0.Pre), .sl 2 (List.map Qa p0.Post), .sl 2 (List.map Qd p0.Code), .sl 2 (List.map Qc p0.Points)]), (11, .cp [.sl 2 (List.map Qa p0.Pre), .sl 2 (List.map Qa p0.Post), .sl 2 (List.map Qd p0.Code), .sl 2 (List.map Qc p0.Points)]), (12, .cp [.sl 2 (List.map Qa p0.Post)]), (13, .sl 2 (List.map Qa p0.Post)), (16, .cp [.sl 2 (List.map Qa p0.Pre), .sl 2 (List.map Qa p0.Post), .sl 2 (List.map Qd p0.Code), .sl 2 (List.map Qc p0.Points)]), (17, .cp [.sl 2 (List.map Qa p0.Pre), .sl 2 (List.map Qa p0.Post), .sl 2 (List.map Qd p0.Code), .sl 2 (List.map Qc p0.Points)]), (18, .cp [.sl 2 (List.map Qd p0.Code)])], [(11, .box [.snil, .snil, .snil, .snil])]⟩ ?_ (fun hS7292_48 => ?_)
  ·refine Qz [3, 10, 14, 17] (by kernel_rfl) rfl ?_
   refine ⟨?_, ?_, ?_, ?_⟩
   ·refine ⟨_, rfl, ?_⟩
    refine Qb rfl rfl rfl rfl (Qg ag66 rfl rfl) ?_
    refine Qe ?_
    refine Ql [0, 2, 5, 6, 7, 8, 10, 11, 12, 13, 16, 17, 18] [11] rfl rfl rfl rfl (by rw [hF]; rfl) ?_
    exact hS7292_32
   ·refine ⟨_, rfl, ?_⟩
    refine QE 8173 (es := List.map Qd ([] : List Instr)) el24 z40 rfl rfl rfl rfl rfl rfl rfl rfl rfl ?_
    refine Qe ?_
    refine Ql [0, 2, 5, 6, 7, 10, 11, 12, 13, 15, 16, 17, 18] [11, 8173] rfl rfl rfl rfl (by rw [hF]; rfl) ?_
    exact hS7292_42
   ·refine ⟨_, rfl, ?_⟩
    refine Qb rfl rfl rfl rfl (Qg ag24 rfl rfl) ?_
    refine Qe ?_
    refine Ql [0, 2, 5, 6, 7, 10, 11, 12, 13, 16, 17, 18, 19] [11] rfl rfl rfl rfl (by rw [hF]; rfl) ?_
    exact hS7292_45
   ·refine ⟨_, rfl, ?_⟩
    refine QJ 8733 z69 rfl rfl rfl rfl rfl rfl rfl ?_
    refine Qe ?_
    refine Ql [0, 2, 3, 5, 6, 7, 10, 11, 12, 13, 16, 17, 18] [11, 8733] rfl rfl rfl rfl (by rw [hF]; rfl) ?_
    exact hS7292_47
  refine Qy 7 [true, true, true, false, false, true, true, true, false, false, true, true, true, true, true, false, false, true, false] ⟨[(0, .cp [.sl 2 (List.map Qa p0.Pre), .sl 2 (List.map Qa p0.Post), .sl 2 (List.map Qd p0.Code), .sl 2 (List.map Qc p0.Points)]), (2, .ptr 11 0 0), (3, .ptr 8733 0 0), (5, .cp [.sl 2 (List.map Qa p0.Pre), .sl 2 (List.map Qa p0.Post), .sl 2 (List.map Qd p0.Code), .sl 2 (List.map Qc p0.Points)]), (6, .cp [.sl 2 (List.map Qa p0.Pre), .sl 2 (List.map Qa p0.Post), .sl 2 (List.map Qd p0.Code), .sl 2 (List.map Qc p0.Points)]), (7, .cp [.sl 2 (List.map Qa p0.Pre)]), (10, .cp [.sl 2 (List.map Qa p0.Pre), .sl 2 (List.map Qa p0.Post), .sl 2 (List.map Qd p0.Code), .sl 2 (List.map Qc p0.Points)]), (11, .cp [.sl 2 (List.map Qa p0.Pre), .sl 2 (List.map Qa p0.Post), .sl 2 (List.map Qd p0.Code), .sl 2 (List.map Qc p0.Points)]), (12, .cp [.sl 2 (List.map Qa p0.Post)]), (15, .ow 8173), (16, .cp [.sl 2 (List.map Qa p0.Pre), .sl 2 (List.map Qa p0.Post), .sl 2 (List.map Qd p0.Code), .sl 2 (List.map Qc p0.Points)]), (17, .cp [.sl 2 (List.map Qa p0.Pre), .sl 2 (List.map Qa p0.Post), .sl 2 (List.map Qd p0.Code), .sl 2 (List.map Qc p0.Points)]), (18, .cp [.sl 2 (List.map Qd p0.Code)]), (19, .sl 2 (List.map Qd p0.Code))], [(11, .box [.snil, .snil, .snil, .snil]), (8173, .arr ⟨false, false⟩ 2 40 (List.map Qd ([] : List Instr))), (8733, .box [.snil, .snil, .snil, .snil])]⟩ ?_ (fun hS7292_49 => ?_)
  ·refine Qz [3, 8] (by kernel_rfl) rfl ?_
   refine ⟨?_, ?_⟩
   ·refine ⟨_, rfl, ?_⟩
    refine Qb rfl rfl rfl rfl (Qg ag66 rfl rfl) ?_
    refine Qe ?_
    refine Ql [0, 2, 3, 5, 6, 7, 8, 10, 11, 12, 15, 16, 17, 18, 19] [11, 8173, 8733] rfl rfl rfl rfl (by rw [hF]; rfl) ?_
    exact hS7292_33
   ·refine ⟨_, rfl, ?_⟩
    refine Qb rfl rfl rfl rfl (Qg ag66 rfl rfl) ?_
    refine Qe ?_
    refine Ql [0, 2, 3, 5, 6, 7, 10, 11, 12, 13, 15, 16, 17, 18, 19] [11, 8173, 8733] rfl rfl rfl rfl (by rw [hF]; rfl) ?_
    exact hS7292_41
  refine Qy 9 [true, true, true, false, false, true, true, true, false, false, true, true, true, true, false, false, false, false, false] ⟨[(0, .cp [.sl 2 (List.map Qa p0.Pre), .sl 2 (List.map Qa p0.Post), .sl 2 (List.map Qd p0.Code), .sl 2 (List.map Qc p0.Points)]), (2, .ptr 11 0 0), (5, .cp [.sl 2 (List.map Qa p0.Pre), .sl 2 (List.map Qa p0.Post), .sl 2 (List.map Qd p0.Code), .sl 2 (List.map Qc p0.Points)]), (6, .cp [.sl 2 (List.map Qa p0.Pre), .sl 2 (List.map Qa p0.Post), .sl 2 (List.map Qd p0.Code), .sl 2 (List.map Qc p0.Points)]), (7, .cp [.sl 2 (List.map Qa p0.Pre)]), (10, .cp [.sl 2 (List.map Qa p0.Pre), .sl 2 (List.map Qa p0.Post), .sl 2 (List.map Qd p0.Code), .sl 2 (List.map Qc p0.Points)]), (11, .cp [.sl 2 (List.map Qa p0.Pre), .sl 2 (List.map Qa p0.Post), .sl 2 (List.map Qd p0.Code), .sl 2 (List.map Qc p0.Points)]), (12, .cp [.sl 2 (List.map Qa p0.Post)]), (15, .ow 8173), (16, .cp [.sl 2 (List.map Qa p0.Pre), .sl 2 (List.map Qa p0.Post), .sl 2 (List.map Qd p0.Code), .sl 2 (List.map Qc p0.Points)]), (17, .cp [.sl 2 (List.map Qa p0.Pre), .sl 2 (List.map Qa p0.Post), .sl 2 (List.map Qd p0.Code), .sl 2 (List.map Qc p0.Points)]), (18, .cp [.sl 2 (List.map Qd p0.Code)])], [(11, .box [.snil, .snil, .snil, .snil]), (8173, .arr ⟨false, false⟩ 2 40 (List.map Qd ([] : List Instr)))]⟩ ?_ (fun hS7292_50 => ?_)
  ·refine Qn 14 (by kernel_rfl) rfl rfl rfl rfl rfl (Qg ag24 rfl rfl) ?_
   refine Qz [3, 8, 17] (by kernel_rfl) rfl ?_
   refine ⟨?_, ?_, ?_⟩
   ·refine ⟨_, rfl, ?_⟩
    refine Qb rfl rfl rfl rfl (Qg ag66 rfl rfl) ?_
    refine Qe ?_
    refine Ql [0, 2, 5, 6, 7, 8, 10, 11, 12, 15, 16, 17, 18, 19] [11, 8173] rfl rfl rfl rfl (by rw [hF]; rfl) ?_
    exact hS7292_35
   ·refine ⟨_, rfl, ?_⟩
    refine Qb rfl rfl rfl rfl (Qg ag66 rfl rfl) ?_
    refine Qe ?_
    refine Ql [0, 2, 5, 6, 7, 10, 11, 12, 13, 15, 16, 17, 18, 19] [11, 8173] rfl rfl rfl rfl (by rw [hF]; rfl) ?_
    exact hS7292_43
   ·refine ⟨_, rfl, ?_⟩
    refine QJ 8733 z69 rfl rfl rfl rfl rfl rfl rfl ?_
    refine Qe ?_
    refine Ql [0, 2, 3, 5, 6, 7, 10, 11, 12, 15, 16, 17, 18, 19] [11, 8173, 8733] rfl rfl rfl rfl (by rw [hF]; rfl) ?_
    exact hS7292_49
  refine Qy 8 [true, true, true, false, false, true, true, true, false, false, true, true, true, true, true, false, false, false, false] ⟨[(0, .cp [.sl 2 (List.map Qa p0.Pre), .sl 2 (List.map Qa p0.Post), .sl 2 (List.map Qd p0.Code), .sl 2 (List.map Qc p0.Points)]), (2, .ptr 11 0 0), (5, .cp [.sl 2 (List.map Qa p0.Pre), .sl 2 (List.map Qa p0.Post), .sl 2 (List.map Qd p0.Code), .sl 2 (List.map Qc p0.Points)]), (6, .cp [.sl 2 (List.map Qa p0.Pre), .sl 2 (List.map Qa p0.Post), .sl 2 (List.map Qd p0.Code), .sl 2 (List.map Qc p0.Points)]), (7, .cp [.sl 2 (List.map Qa p0.Pre)]), (10, .cp [.sl 2 (List.map Qa p0.Pre), .sl 2 (List.map Qa p0.Post), .sl 2 (List.map Qd p0.Code), .sl 2 (List.map Qc p0.Points)]), (11, .cp [.sl 2 (List.map Qa p0.Pre), .sl 2 (List.map Qa p0.Post), .sl 2 (List.map Qd p0.Code), .sl 2 (List.map Qc p0.Points)]), (12, .cp [.sl 2 (List.map Qa p0.Post)]), (15, .ow 8173), (16, .cp [.sl 2 (List.map Qa p0.Pre), .sl 2 (List.map Qa p0.Post), .sl 2 (List.map Qd p0.Code), .sl 2 (List.map Qc p0.Points)]), (17, .cp [.sl 2 (List.map Qa p0.Pre), .sl 2 (List.map Qa p0.Post), .sl 2 (List.map Qd p0.Code), .sl 2 (List.map Qc p0.Points)]), (18, .cp [.sl 2 (List.map Qd p0.Code)]), (19, .sl 2 (List.map Qd p0.Code))], [(11, .box [.snil, .snil, .snil, .snil]), (8173, .arr ⟨false, false⟩ 2 40 (List.map Qd ([] : List Instr)))]⟩ ?_ (fun hS7292_51 => ?_)
  ·refine Qz [3, 8, 17] (by kernel_rfl) rfl ?_
   refine ⟨?_, ?_, ?_⟩
   ·refine ⟨_, rfl, ?_⟩
    refine Qb rfl rfl rfl rfl (Qg ag66 rfl rfl) ?_
    refine Qe ?_
    refine Ql [0, 2, 5, 6, 7, 8, 10, 11, 12, 15, 16, 17, 18, 19] [11, 8173] rfl rfl rfl rfl (by rw [hF]; rfl) ?_
    exact hS7292_35
   ·refine ⟨_, rfl, ?_⟩
    refine Qb rfl rfl rfl rfl (Qg ag66 rfl rfl) ?_
    refine Qe ?_
    refine Ql [0, 2, 5, 6, 7, 10, 11, 12, 13, 15, 16, 17, 18, 19] [11, 8173] rfl rfl rfl rfl (by rw [hF]; rfl) ?_
    exact hS7292_43
   ·refine ⟨_, rfl, ?_⟩
    refine QJ 8733 z69 rfl rfl rfl rfl rfl rfl rfl ?_
    refine Qe ?_
    refine Ql [0, 2, 3, 5, 6, 7, 10, 11, 12, 15, 16, 17, 18, 19] [11, 8173, 8733] rfl rfl rfl rfl (by rw [hF]; rfl) ?_
    exact hS7292_49
  refine Qy 8 [true, true, true, false, false, true, true, true, false, false, false, true, true, true, true, false, false, true, false] ⟨[(0, .cp [.sl 2 (List.map Qa p0.Pre), .sl 2 (List.map Qa p0.Post), .sl 2 (List.map Qd p0.Code), .sl 2 (List.map Qc p0.Points)]), (2, .ptr 11 0 0), (3, .ptr 8733 0 0), (5, .cp [.sl 2 (List.map Qa p0.Pre), .sl 2 (List.map Qa p0.Post), .sl 2 (List.map Qd p0.Code), .sl 2 (List.map Qc p0.Points)]), (6, .cp [.sl 2 (List.map Qa p0.Pre), .sl 2 (List.map Qa p0.Post), .sl 2 (List.map Qd p0.Code), .sl 2 (List.map Qc p0.Points)]), (7, .cp [.sl 2 (List.map Qa p0.Pre)]), (10, .cp [.sl 2 (List.map Qa p0.Pre), .sl 2 (List.map Qa p0.Post), .sl 2 (List.map Qd p0.Code), .sl 2 (List.map Qc p0.Points)]), (11, .cp [.sl 2 (List.map Qa p0.Pre), .sl 2 (List.map Qa p0.Post), .sl 2 (List.map Qd p0.Code), .sl 2 (List.map Qc p0.Points)]), (12, .cp [.sl 2 (List.map Qa p0.Post)]), (16, .cp [.sl 2 (List.map Qa p0.Pre), .sl 2 (List.map Qa p0.Post), .sl 2 (List.map Qd p0.Code), .sl 2 (List.map Qc p0.Points)]), (17, .cp [.sl 2 (List.map Qa p0.Pre), .sl 2 (List.map Qa p0.Post), .sl 2 (List.map Qd p0.Code), .sl 2 (List.map Qc p0.Points)]), (18, .cp [.sl 2 (List.map Qd p0.Code)]), (19, .sl 2 (List.map Qd p0.Code))], [(11, .box [.snil, .snil, .snil, .snil]), (8733, .box [.snil, .snil, .snil, .snil])]⟩ ?_ (fun hS7292_52 => ?_)
  ·refine Qz [3, 8, 10] (by kernel_rfl) rfl ?_
   refine ⟨?_, ?_, ?_⟩
   ·refine ⟨_, rfl, ?_⟩
    refine Qb rfl rfl rfl rfl (Qg ag66 rfl rfl) ?_
    refine Qe ?_
    refine Ql [0, 2, 3, 5, 6, 7, 8, 10, 11, 12, 16, 17, 18, 19] [11, 8733] rfl rfl rfl rfl (by rw [hF]; rfl) ?_
    exact hS7292_36
   ·refine ⟨_, rfl, ?_⟩
    refine Qb rfl rfl rfl rfl (Qg ag66 rfl rfl) ?_
    refine Qe ?_
    refine Ql [0, 2, 3, 5, 6, 7, 10, 11, 12, 13, 16, 17, 18, 19] [11, 8733] rfl rfl rfl rfl (by rw [hF]; rfl) ?_
    exact hS7292_44
   ·refine ⟨_, rfl, ?_⟩
    refine QE 8173 (es := List.map Qd ([] : List Instr)) el24 z40 rfl rfl rfl rfl rfl rfl rfl rfl rfl ?_
    refine Qe ?_
    refine Ql [0, 2, 3, 5, 6, 7, 10, 11, 12, 15, 16, 17, 18, 19] [11, 8173, 8733] rfl rfl rfl rfl (by rw [hF]; rfl) ?_
    exact hS7292_49
  refine Qy 9 [true, true, true, false, false, true, true, true, false, false, false, true, true, true, true, false, false, false, false] ⟨[(0, .cp [.sl 2 (List.map Qa p0.Pre), .sl 2 (List.map Qa p0.Post), .sl 2 (List.map Qd p0.Code), .sl 2 (List.map Qc p0.Points)]), (2, .ptr 11 0 0), (5, .cp [.sl 2 (List.map Qa p0.Pre), .sl 2 (List.map Qa p0.Post), .sl 2 (List.map Qd p0.Code), .sl 2 (List.map Qc p0.Points)]), (6, .cp [.sl 2 (List.map Qa p0.Pre), .sl 2 (List.map Qa p0.Post), .sl 2 (List.map Qd p0.Code), .sl 2 (List.map Qc p0.Points)]), (7, .cp [.sl 2 (List.map Qa p0.Pre)]), (10, .cp [.sl 2 (List.map Qa p0.Pre), .sl 2 (List.map Qa p0.Post), .sl 2 (List.map Qd p0.Code), .sl 2 (List.map Qc p0.Points)]), (11, .cp [.sl 2 (List.map Qa p0.Pre), .sl 2 (List.map Qa p0.Post), .sl 2 (List.map Qd p0.Code), .sl 2 (List.map Qc p0.Points)]), (12, .cp [.sl 2 (List.map Qa p0.Post)]), (16, .cp [.sl 2 (List.map Qa p0.Pre), .sl 2 (List.map Qa p0.Post), .sl 2 (List.map Qd p0.Code), .sl 2 (List.map Qc p0.Points)]), (17, .cp [.sl 2 (List.map Qa p0.Pre), .sl 2 (List.map Qa p0.Post), .sl 2 (List.map Qd p0.Code), .sl 2 (List.map Qc p0.Points)]), (18, .cp [.sl 2 (List.map Qd p0.Code)]), (19, .sl 2 (List.map Qd p0.Code))], [(11, .box [.snil, .snil, .snil, .snil])]⟩ ?_ (fun hS7292_53 => ?_)
  ·refine Qz [3, 8, 10, 17] (by kernel_rfl) rfl ?_
   refine ⟨?_, ?_, ?_, ?_⟩
   ·refine ⟨_, rfl, ?_⟩
    refine Qb rfl rfl rfl rfl (Qg ag66 rfl rfl) ?_
    refine Qe ?_
    refine Ql [0, 2, 5, 6, 7, 8, 10, 11, 12, 16, 17, 18, 19] [11] rfl rfl rfl rfl (by rw [hF]; rfl) ?_
    exact hS7292_37
   ·refine ⟨_, rfl, ?_⟩
    refine Qb rfl rfl rfl rfl (Qg ag66 rfl rfl) ?_
    refine Qe ?_
    refine Ql [0, 2, 5, 6, 7, 10, 11, 12, 13, 16, 17, 18, 19] [11] rfl rfl rfl rfl (by rw [hF]; rfl) ?_
    exact hS7292_45
   ·refine ⟨_, rfl, ?_⟩
    refine QE 8173 (es := List.map Qd ([] : List Instr)) el24 z40 rfl rfl rfl rfl rfl rfl rfl rfl rfl ?_
    refine Qe ?_
    refine Ql [0, 2, 5, 6, 7, 10, 11, 12, 15, 16, 17, 18, 19] [11, 8173] rfl rfl rfl rfl (by rw [hF]; rfl) ?_
    exact hS7292_51
   ·refine ⟨_, rfl, ?_⟩
    refine QJ 8733 z69 rfl rfl rfl rfl rfl rfl rfl ?_
    refine Qe ?_
    refine Ql [0, 2, 3, 5, 6, 7, 10, 11, 12, 16, 17, 18, 19] [11, 8733] rfl rfl rfl rfl (by rw [hF]; rfl) ?_
    exact hS7292_52
  refine Qy 8 [true, true, true, false, false, true, true, true, false, false, true, true, true, true, false, false, false, true, false] ⟨[(0, .cp [.sl 2 (List.map Qa p0.Pre), .sl 2 (List.map Qa p0.Post), .sl 2 (List.map Qd p0.Code), .sl 2 (List.map Qc p0.Points)]), (2, .ptr 11 0 0), (3, .ptr 8733 0 0), (5, .cp [.sl 2 (List.map Qa p0.Pre), .sl 2 (List.map Qa p0.Post), .sl 2 (List.map Qd p0.Code), .sl 2 (List.map Qc p0.Points)]), (6, .cp [.sl 2 (List.map Qa p0.Pre), .sl 2 (List.map Qa p0.Post), .sl 2 (List.map Qd p0.Code), .sl 2 (List.map Qc p0.Points)]), (7, .cp [.sl 2 (List.map Qa p0.Pre)]), (10, .cp [.sl 2 (List.map Qa p0.Pre), .sl 2 (List.map Qa p0.Post), .sl 2 (List.map Qd p0.Code), .sl 2 (List.map Qc p0.Points)]), (11, .cp [.sl 2 (List.map Qa p0.Pre), .sl 2 (List.map Qa p0.Post), .sl 2 (List.map Qd p0.Code), .sl 2 (List.map Qc p0.Points)]), (12, .cp [.sl 2 (List.map Qa p0.Post)]), (15, .ow 8173), (16, .cp [.sl 2 (List.map Qa p0.Pre), .sl 2 (List.map Qa p0.Post), .sl 2 (List.map Qd p0.Code), .sl 2 (List.map Qc p0.Points)]), (17, .cp [.sl 2 (List.map Qa p0.Pre), .sl 2 (List.map Qa p0.Post), .sl 2 (List.map Qd p0.Code), .sl 2 (List.map Qc p0.Points)]), (18, .cp [.sl 2 (List.map Qd p0.Code)])], [(11, .box [.snil, .snil, .snil, .snil]), (8173, .arr ⟨false, false⟩ 2 40 (List.map Qd ([] : List Instr))), (8733, .box [.snil, .snil, .snil, .snil])]⟩ ?_ (fun hS7292_54 => ?_)
  ·refine Qn 14 (by kernel_rfl) rfl rfl rfl rfl rfl (Qg ag24 rfl rfl) ?_
   refine Qz [3, 8] (by kernel_rfl) rfl ?_
   refine ⟨?_, ?_⟩
   ·refine ⟨_, rfl, ?_⟩
    refine Qb rfl rfl rfl rfl (Qg ag66 rfl rfl) ?_
    refine Qe ?_
    refine Ql [0, 2, 3, 5, 6, 7, 8, 10, 11, 12, 15, 16, 17, 18, 19] [11, 8173, 8733] rfl rfl rfl rfl (by rw [hF]; rfl) ?_
    exact hS7292_33
   ·refine ⟨_, rfl, ?_⟩
    refine Qb rfl rfl rfl rfl (Qg ag66 rfl rfl) ?_
    refine Qe ?_
    refine Ql [0, 2, 3, 5, 6, 7, 10, 11, 12, 13, 15, 16, 17, 18, 19] [11, 8173, 8733] rfl rfl rfl rfl (by rw [hF]; rfl) ?_
    exact hS7292_41
  refine Qy 9 [true, true, true, false, false, true, true, true, false, false, false, true, true, true, false, false, false, true, false] ⟨[(0, .cp [.sl 2 (List.map Qa p0.Pre), .sl 2 (List.map Qa p0.Post), .sl 2 (List.map Qd p0.Code), .sl 2 (List.map Qc p0.Points)]), (2, .ptr 11 0 0), (3, .ptr 8733 0 0), (5, .cp [.sl 2 (List.map Qa p0.Pre), .sl 2 (List.map Qa p0.Post), .sl 2 (List.map Qd p0.Code), .sl 2 (List.map Qc p0.Points)]), (6, .cp [.sl 2 (List.map Qa p0.Pre), .sl 2 (List.map Qa p0.Post), .sl 2 (List.map Qd p0.Code), .sl 2 (List.map Qc p0.Points)]), (7, .cp [.sl 2 (List.map Qa p0.Pre)]), (10, .cp [.sl 2 (List.map Qa p0.Pre), .sl 2 (List.map Qa p0.Post), .sl 2 (List.map Qd p0.Code), .sl 2 (List.map Qc p0.Points)]), (11, .cp [.sl 2 (List.map Qa p0.Pre), .sl 2 (List.map Qa p0.Post), .sl 2 (List.map Qd p0.Code), .sl 2 (List.map Qc p0.Points)]), (12, .cp [.sl 2 (List.map Qa p0.Post)]), (16, .cp [.sl 2 (List.map Qa p0.Pre), .sl 2 (List.map Qa p0.Post), .sl 2 (List.map Qd p0.Code), .sl 2 (List.map Qc p0.Points)]), (17, .cp [.sl 2 (List.map Qa p0.Pre), .sl 2 (List.map Qa p0.Post), .sl 2 (List.map Qd p0.Code), .sl 2 (List.map Qc p0.Points)]), (18, .cp [.sl 2 (List.map Qd p0.Code)])], [(11, .box [.snil, .snil, .snil, .snil]), (8733, .box [.snil, .snil, .snil, .snil])]⟩ ?_ (fun hS7292_55 => ?_)
  ·refine Qz [3, 8, 10, 14] (by kernel_rfl) rfl ?_
   refine ⟨?_, ?_, ?_, ?_⟩
   ·refine ⟨_, rfl, ?_⟩
    refine Qb rfl rfl rfl rfl (Qg ag66 rfl rfl) ?_
    refine Qe ?_
    refine Ql [0, 2, 3, 5, 6, 7, 8, 10, 11, 12, 16, 17, 18] [11, 8733] rfl rfl rfl rfl (by rw [hF]; rfl) ?_
    exact hS7292_39
   ·refine ⟨_, rfl, ?_⟩
    refine Qb rfl rfl rfl rfl (Qg ag66 rfl rfl) ?_
    refine Qe ?_
    refine Ql [0, 2, 3, 5, 6, 7, 10, 11, 12, 13, 16, 17, 18] [11, 8733] rfl rfl rfl rfl (by rw [hF]; rfl) ?_
    exact hS7292_47
   ·refine ⟨_, rfl, ?_⟩
    refine QE 8173 (es := List.map Qd ([] : List Instr)) el24 z40 rfl rfl rfl rfl rfl rfl rfl rfl rfl ?_
    refine Qe ?_
    refine Ql [0, 2, 3, 5, 6, 7, 10, 11, 12, 15, 16, 17, 18] [11, 8173, 8733] rfl rfl rfl rfl (by rw [hF]; rfl) ?_
    exact hS7292_54
   ·refine ⟨_, rfl, ?_⟩
    refine Qb rfl rfl rfl rfl (Qg ag24 rfl rfl) ?_
    refine Qe ?_
    refine Ql [0, 2, 3, 5, 6, 7, 10, 11, 12, 16, 17, 18, 19] [11, 8733] rfl rfl rfl rfl (by rw [hF]; rfl) ?_
    exact hS7292_52
  refine Qz [3, 8, 10, 14, 17] (by kernel_rfl) rfl ?_
  refine ⟨?_, ?_, ?_, ?_, ?_⟩
  ·refine ⟨_, rfl, ?_⟩
   refine Qb rfl rfl rfl rfl (Qg ag66 rfl rfl) ?_
   refine Qe ?_
   refine Ql [0, 2, 5, 6, 7, 8, 10, 11, 12, 16, 17, 18] [11] rfl rfl rfl rfl (by rw [hF]; rfl) ?_
   exact hS7292_40
  ·refine ⟨_, rfl, ?_⟩
   refine Qb rfl rfl rfl rfl (Qg ag66 rfl rfl) ?_
   refine Qe ?_
   refine Ql [0, 2, 5, 6, 7, 10, 11, 12, 13, 16, 17, 18] [11] rfl rfl rfl rfl (by rw [hF]; rfl) ?_
   exact hS7292_48
  ·refine ⟨_, rfl, ?_⟩
   refine QE 8173 (es := List.map Qd ([] : List Instr)) el24 z40 rfl rfl rfl rfl rfl rfl rfl rfl rfl ?_
   refine Qe ?_
   refine Ql [0, 2, 5, 6, 7, 10, 11, 12, 15, 16, 17, 18] [11, 8173] rfl rfl rfl rfl (by rw [hF]; rfl) ?_
   exact hS7292_50
  ·refine ⟨_, rfl, ?_⟩
   refine Qb rfl rfl rfl rfl (Qg ag24 rfl rfl) ?_
   refine Qe ?_
   refine Ql [0, 2, 5, 6, 7, 10, 11, 12, 16, 17, 18, 19] [11] rfl rfl rfl rfl (by rw [hF]; rfl) ?_
   exact hS7292_53
  ·refine ⟨_, rfl, ?_⟩
   refine QJ 8733 z69 rfl rfl rfl rfl rfl rfl rfl ?_
   refine Qe ?_
   refine Ql [0, 2, 3, 5, 6, 7, 10, 11, 12, 16, 17, 18] [11, 8733] rfl rfl rfl rfl (by rw [hF]; rfl) ?_
   exact hS7292_55
end Go.Mod
