import Derived.Test.YtpphpgkimfejpaaGh
/- Printed by a program. -/
namespace Go.Mod
open Go Go.AM Go.Proofs
set_option linter.unusedVariables false
set_option linter.unusedSimpArgs false
set_option maxRecDepth 100000
set_option maxHeartbeats 8000000
theorem c_spec_l06Mix (p0 : l06Row) (p1 : l06Row) (p2 : Int) (out : l06Row × Bool) (hm : m_spec_l06Mix p0 p1 p2 = some out) : ACall Try.prog 101 [.cp [.int .i64 p0.c, .sl 1 (List.map a_i64 p0.list), .sl 1 (List.map a_i64 p0.times)], .cp [.int .i64 p1.c, .sl 1 (List.map a_i64 p1.list), .sl 1 (List.map a_i64 p1.times)], .int .i64 p2] [] (.tup [.agg [.int .i64 out.1.c, .ow 1000, .ow 1001], .bool out.2]) [(1000, .arr ⟨false, true⟩ 1 2 (List.map a_i64 out.1.list)), (1001, .arr ⟨false, true⟩ 1 2 (List.map a_i64 out.1.times))] := by
  refine ACall.intro Try.func101 rfl Try.ntmps101 rfl (fun F hF => ?_)
  unfold m_spec_l06Mix at hm
  refine T_seq ?_
  refine T_region ?_
  refine TL_alloc 11 z91 rfl rfl rfl rfl rfl rfl rfl ?_
  refine TL_pure rfl rfl rfl rfl (op_assign rfl) ?_
  refine TL_nil ?_
  refine T_seq ?_
  refine T_region ?_
  refine TL_pure rfl rfl rfl rfl (op_move rfl) ?_
  refine TL_pure rfl rfl rfl rfl (op_nilCheck rfl rfl) ?_
  refine TL_pure rfl rfl rfl rfl (op_fieldAddrC (n := 1) fa91_1 rfl rfl rfl) ?_
  refine TL_pure rfl rfl rfl rfl (op_load_one ag26 rfl rfl) ?_
  refine TL_pure rfl rfl rfl rfl (op_move rfl) ?_
  obtain ⟨x22, hx22, hm⟩ := bindS hm
  refine TL_pure rfl rfl rfl rfl (op_indexT el26 rfl rfl hx22 rfl) ?_
  refine TL_pure rfl rfl rfl rfl (op_load_one ag2 rfl rfl) ?_
  refine TL_pure rfl rfl rfl rfl (op_assign rfl) ?_
  refine TL_nil ?_
  refine T_seq ?_
  refine T_region ?_
  refine TL_pure rfl rfl rfl rfl (op_move rfl) ?_
  refine TL_pure rfl rfl rfl rfl (op_nilCheck rfl rfl) ?_
  refine TL_pure rfl rfl rfl rfl (op_fieldAddrC (n := 1) fa91_1 rfl rfl rfl) ?_
  refine TL_pure rfl rfl rfl rfl (op_load_one ag26 rfl rfl) ?_
  refine TL_pure rfl rfl rfl rfl (op_move rfl) ?_
  obtain ⟨x29, hx29, hm⟩ := bindS hm
  refine TL_pure rfl rfl rfl rfl (op_indexT el26 rfl rfl hx29 rfl) ?_
  refine TL_pure rfl rfl rfl rfl (op_load_one ag2 rfl rfl) ?_
  refine TL_pure rfl rfl rfl rfl (op_negW rfl) ?_
  refine TL_pure rfl rfl rfl rfl (op_assign rfl) ?_
  refine TL_nil ?_
  refine T_seq ?_
  refine T_region ?_
  refine TL_pure rfl rfl rfl rfl (op_move rfl) ?_
  refine TL_pure rfl rfl rfl rfl (op_move rfl) ?_
  obtain ⟨r34, hr34, hm⟩ := bindS hm
  refine TL_callF (c_spec_l06Gcd x22 (w64 (0 - x29)) r34 hr34) Try.call118 rfl rfl rfl rfl rfl ?_
  refine TL_pure rfl rfl rfl rfl (op_assign rfl) ?_
  refine TL_nil ?_
  refine T_seq ?_
  refine T_region ?_
  refine TL_pure rfl rfl rfl rfl (op_move rfl) ?_
  refine TL_pure rfl rfl rfl rfl (op_move rfl) ?_
  obtain ⟨q37, hq37, hm⟩ := bindS hm
  refine TL_pure rfl rfl rfl rfl (op_quoT rfl rfl hq37) ?_
  refine TL_pure rfl rfl rfl rfl (op_assign rfl) ?_
  refine TL_nil ?_
  refine T_seq ?_
  refine T_region ?_
  refine TL_pure rfl rfl rfl rfl (op_move rfl) ?_
  refine TL_pure rfl rfl rfl rfl (op_move rfl) ?_
  obtain ⟨q40, hq40, hm⟩ := bindS hm
  refine TL_pure rfl rfl rfl rfl (op_quoT rfl rfl hq40) ?_
  refine TL_pure rfl rfl rfl rfl (op_assign rfl) ?_
  refine TL_nil ?_
  refine T_seq ?_
  refine T_drawZ [15] mix (by kernel_rfl) rfl ?_
  refine TZ_pure 0 (by kernel_rfl) rfl rfl rfl rfl rfl (op_move rfl) ?_
  refine TZ_pure 1 (by kernel_rfl) rfl rfl rfl rfl rfl (op_move rfl) ?_
  refine TZ_pure 2 (by kernel_rfl) rfl rfl rfl rfl rfl (op_nilCheck rfl rfl) ?_
  refine TZ_pure 3 (by kernel_rfl) rfl rfl rfl rfl rfl (op_fieldAddrC (n := 1) fa91_0 rfl rfl rfl) ?_
  refine TZ_pure 4 (by kernel_rfl) rfl rfl rfl rfl rfl (op_load_one ag2 rfl rfl) ?_
  refine TZ_pure 5 (by kernel_rfl) rfl rfl rfl rfl rfl (op_mulW rfl rfl) ?_
  refine TZ_pure 6 (by kernel_rfl) rfl rfl rfl rfl rfl (op_move rfl) ?_
  refine TZ_pure 7 (by kernel_rfl) rfl rfl rfl rfl rfl (op_move rfl) ?_
  refine TZ_pure 8 (by kernel_rfl) rfl rfl rfl rfl rfl (op_nilCheck rfl rfl) ?_
  refine TZ_pure 9 (by kernel_rfl) rfl rfl rfl rfl rfl (op_fieldAddrC (n := 1) fa91_0 rfl rfl rfl) ?_
  refine TZ_pure 10 (by kernel_rfl) rfl rfl rfl rfl rfl (op_load_one ag2 rfl rfl) ?_
  refine TZ_pure 11 (by kernel_rfl) rfl rfl rfl rfl rfl (op_mulW rfl rfl) ?_
  refine TZ_pure 12 (by kernel_rfl) rfl rfl rfl rfl rfl (op_addW rfl rfl) ?_
  refine TZ_pure 13 (by kernel_rfl) rfl rfl rfl rfl rfl (op_buildP pl91 z91 rfl rfl rfl rfl rfl) ?_
  refine TZ_one 14 (by kernel_rfl) rfl ?_
  refine TL_alloc 15 z91 rfl rfl rfl rfl rfl rfl rfl ?_
  refine TL_nil ?_
  refine TZ_one 15 (by kernel_rfl) rfl ?_
  refine TL_store_box sz91 rfl rfl rfl rfl rfl rfl rfl rfl rfl ?_
  refine TL_nil ?_
  refine TZ_done (by kernel_rfl) ?_
  refine T_seq ?_
  refine T_region ?_
  refine TL_pure rfl rfl rfl rfl (op_fieldAddr fa91_0 rfl rfl) ?_
  refine TL_pure rfl rfl rfl rfl (op_load_one ag2 rfl rfl) ?_
  obtain ⟨r57, hr57, hm⟩ := bindS hm
  refine TL_callF (c_spec_l06Gcd (0 : Int) (w64 ((w64 (q40 * p0.c)) + (w64 (q37 * p1.c)))) r57 hr57) Try.call118 rfl rfl rfl rfl rfl ?_
  refine TL_pure rfl rfl rfl rfl (op_assign rfl) ?_
  refine TL_nil ?_
  refine T_seq ?_
  refine T_seq ?_
  refine T_region ?_
  refine TL_pure rfl rfl rfl rfl (op_assign rfl) ?_
  refine TL_nil ?_
  refine T_block ?_
  refine T_ownNilBox 15 1 609 ⟨false, false⟩ 2 rfl rfl rfl (sz := 1) rfl rfl rfl rfl ?_
  refine T_keepH [0, 1, 6, 8, 9, 10, 11, 12] [11, 15, 609] rfl rfl rfl rfl (by rw [hF]; rfl) ?_
  refine T_ren [(11, 11), (15, 15), (609, 19)] rfl rfl rfl (by rw [hF]; rfl) ?_
  refine T_loop ?_
  obtain ⟨u0, hl0, hm⟩ := bindS hm
  refine TR_iter2 (m_spec_l06Mix_L0 p0 p1 q37 q40) (fun (s0 : Int × (List Int) × Int) => ⟨[(0, .cp [.int .i64 p0.c, .sl 1 (List.map a_i64 p0.list), .sl 1 (List.map a_i64 p0.times)]), (1, .cp [.int .i64 p1.c, .sl 1 (List.map a_i64 p1.list), .sl 1 (List.map a_i64 p1.times)]), (6, .ptr 11 0 0), (8, .int .i64 q37), (9, .int .i64 q40), (10, .int .i64 s0.1), (11, .ptr 15 0 0), (12, .int .i64 s0.2.2)], [(11, .box [.int .i64 (0 : Int), .snil, .snil]), (15, .box [.int .i64 (w64 ((w64 (q40 * p0.c)) + (w64 (q37 * p1.c)))), .ow 19, .snil]), (19, .arr ⟨false, false⟩ 1 2 (List.map a_i64 s0.2.1))]⟩) (fun u0 => .exit 0) (fun u0 => ⟨[(0, .cp [.int .i64 p0.c, .sl 1 (List.map a_i64 p0.list), .sl 1 (List.map a_i64 p0.times)]), (1, .cp [.int .i64 p1.c, .sl 1 (List.map a_i64 p1.list), .sl 1 (List.map a_i64 p1.times)]), (6, .ptr 11 0 0), (8, .int .i64 q37), (9, .int .i64 q40), (10, .int .i64 u0.1), (11, .ptr 15 0 0)], [(11, .box [.int .i64 (0 : Int), .snil, .snil]), (15, .box [.int .i64 (w64 ((w64 (q40 * p0.c)) + (w64 (q37 * p1.c)))), .ow 19, .snil]), (19, .arr ⟨false, false⟩ 1 2 (List.map a_i64 u0.2))]⟩) (fun u0 => m_spec_l06Mix_A0 p0 p1 q37 q40 u0 = some out) hl0 hm (fun u0 hm => ?_) (fun hx0 s0 c0 hm hc0 => ?_)
  · unfold m_spec_l06Mix_A0 at hm
    refine T_seq ?_
    refine T_seq ?_
    refine T_region ?_
    refine TL_pure rfl rfl rfl rfl (op_assign rfl) ?_
    refine TL_nil ?_
    refine T_block ?_
    refine T_ownNilBox 15 2 608 ⟨false, false⟩ 2 rfl rfl rfl (sz := 1) rfl rfl rfl rfl ?_
    refine T_keepH [0, 1, 6, 8, 9, 10, 11, 13] [11, 15, 19, 608] rfl rfl rfl rfl (by rw [hF]; rfl) ?_
    refine T_ren [(11, 11), (15, 15), (19, 19), (608, 315)] rfl rfl rfl (by rw [hF]; rfl) ?_
    refine T_loop ?_
    obtain ⟨u1, hl1, hm⟩ := bindS hm
    refine TR_iter2 (m_spec_l06Mix_L1 p0 p1 q37 q40) (fun (s1 : Int × (List Int) × Int) => ⟨[(0, .cp [.int .i64 p0.c, .sl 1 (List.map a_i64 p0.list), .sl 1 (List.map a_i64 p0.times)]), (1, .cp [.int .i64 p1.c, .sl 1 (List.map a_i64 p1.list), .sl 1 (List.map a_i64 p1.times)]), (6, .ptr 11 0 0), (8, .int .i64 q37), (9, .int .i64 q40), (10, .int .i64 s1.1), (11, .ptr 15 0 0), (13, .int .i64 s1.2.2)], [(11, .box [.int .i64 (0 : Int), .snil, .snil]), (15, .box [.int .i64 (w64 ((w64 (q40 * p0.c)) + (w64 (q37 * p1.c)))), .ow 19, .ow 315]), (19, .arr ⟨false, false⟩ 1 2 (List.map a_i64 u0.2)), (315, .arr ⟨false, false⟩ 1 2 (List.map a_i64 s1.2.1))]⟩) (fun u1 => .exit 2) (fun u1 => ⟨[(6, .ptr 11 0 0), (10, .int .i64 u1.1), (11, .ptr 15 0 0)], [(11, .box [.int .i64 (0 : Int), .snil, .snil]), (15, .box [.int .i64 (w64 ((w64 (q40 * p0.c)) + (w64 (q37 * p1.c)))), .ow 19, .ow 315]), (19, .arr ⟨false, false⟩ 1 2 (List.map a_i64 u0.2)), (315, .arr ⟨false, false⟩ 1 2 (List.map a_i64 u1.2))]⟩) (fun u1 => m_spec_l06Mix_A1 p0 p1 q37 q40 u0 u1 = some out) hl1 hm (fun u1 hm => ?_) (fun hx1 s1 c1 hm hc1 => ?_)
    · unfold m_spec_l06Mix_A1 at hm
      refine T_seq ?_
      refine T_region ?_
      refine TL_pure rfl rfl rfl rfl (op_fieldAddr fa91_0 rfl rfl) ?_
      refine TL_pure rfl rfl rfl rfl (op_load_one ag2 rfl rfl) ?_
      refine TL_pure rfl rfl rfl rfl (op_move rfl) ?_
      obtain ⟨q141, hq141, hm⟩ := bindS hm
      refine TL_pure rfl rfl rfl rfl (op_quoT rfl rfl hq141) ?_
      refine TL_pure rfl rfl rfl rfl (op_fieldAddr fa91_0 rfl rfl) ?_
      refine TL_store_box sz2 rfl rfl rfl rfl rfl rfl rfl rfl rfl ?_
      refine TL_nil ?_
      refine T_seq ?_
      refine T_region ?_
      refine TL_pure rfl rfl rfl rfl (op_fieldAddr fa91_0 rfl rfl) ?_
      refine TL_pure rfl rfl rfl rfl (op_load_one ag2 rfl rfl) ?_
      obtain ⟨r145, hr145, hm⟩ := bindS hm
      refine TL_callF (c_spec_l02Number q141 r145 hr145) Try.call112 rfl rfl rfl rfl rfl ?_
      refine TL_pure rfl rfl rfl rfl (op_assign rfl) ?_
      refine TL_nil ?_
      refine T_seq ?_
      refine T_seq ?_
      refine T_region ?_
      refine TL_pure rfl rfl rfl rfl (op_assign rfl) ?_
      refine TL_nil ?_
      refine T_block ?_
      refine T_keepH [6, 10, 11, 14, 15] [11, 15, 19, 315] rfl rfl rfl rfl (by rw [hF]; rfl) ?_
      refine T_loop ?_
      obtain ⟨u2, hl2, hm⟩ := bindS hm
      refine TR_iter2 (m_spec_l06Mix_L2 u1) (fun (s2 : (List Int) × Bool × Int) => ⟨[(6, .ptr 11 0 0), (10, .int .i64 u1.1), (11, .ptr 15 0 0), (14, .bool s2.2.1), (15, .int .i64 s2.2.2)], [(11, .box [.int .i64 (0 : Int), .snil, .snil]), (15, .box [.int .i64 q141, .ow 19, .ow 315]), (19, .arr ⟨false, false⟩ 1 2 (List.map a_i64 s2.1)), (315, .arr ⟨false, false⟩ 1 2 (List.map a_i64 u1.2))]⟩) (fun u2 => .exit 4) (fun u2 => ⟨[(6, .ptr 11 0 0), (10, .int .i64 u1.1), (11, .ptr 15 0 0), (14, .bool u2.2)], [(11, .box [.int .i64 (0 : Int), .snil, .snil]), (15, .box [.int .i64 q141, .ow 19, .ow 315]), (19, .arr ⟨false, false⟩ 1 2 (List.map a_i64 u2.1)), (315, .arr ⟨false, false⟩ 1 2 (List.map a_i64 u1.2))]⟩) (fun u2 => m_spec_l06Mix_A2 u1 q141 u2 = some out) hl2 hm (fun u2 hm => ?_) (fun hx2 s2 c2 hm hc2 => ?_)
      · unfold m_spec_l06Mix_A2 at hm
        refine T_seq ?_
        refine T_seq ?_
        refine T_region ?_
        refine TL_pure rfl rfl rfl rfl (op_assign rfl) ?_
        refine TL_nil ?_
        refine T_block ?_
        refine T_keepH [6, 10, 11, 14, 16] [11, 15, 19, 315] rfl rfl rfl rfl (by rw [hF]; rfl) ?_
        refine T_loop ?_
        obtain ⟨u3, hl3, hm⟩ := bindS hm
        refine TR_iter2 (m_spec_l06Mix_L3 u1) (fun (s3 : (List Int) × Bool × Int) => ⟨[(6, .ptr 11 0 0), (10, .int .i64 u1.1), (11, .ptr 15 0 0), (14, .bool s3.2.1), (16, .int .i64 s3.2.2)], [(11, .box [.int .i64 (0 : Int), .snil, .snil]), (15, .box [.int .i64 q141, .ow 19, .ow 315]), (19, .arr ⟨false, false⟩ 1 2 (List.map a_i64 u2.1)), (315, .arr ⟨false, false⟩ 1 2 (List.map a_i64 s3.1))]⟩) (fun u3 => .exit 6) (fun u3 => ⟨[(6, .ptr 11 0 0), (11, .ptr 15 0 0), (14, .bool u3.2)], [(11, .box [.int .i64 (0 : Int), .snil, .snil]), (15, .box [.int .i64 q141, .ow 19, .ow 315]), (19, .arr ⟨false, false⟩ 1 2 (List.map a_i64 u2.1)), (315, .arr ⟨false, false⟩ 1 2 (List.map a_i64 u3.1))]⟩) (fun u3 => m_spec_l06Mix_A3 q141 u2 u3 = some out) hl3 hm (fun u3 hm => ?_) (fun hx3 s3 c3 hm hc3 => ?_)
        · unfold m_spec_l06Mix_A3 at hm
          refine T_seq ?_
          refine T_region ?_
          refine TL_pure rfl rfl rfl rfl (op_load_agg ag91 sz91 rfl rfl rfl) ?_
          refine TL_pure rfl rfl rfl rfl (op_move rfl) ?_
          refine TL_store_box sz91 rfl rfl rfl rfl rfl rfl rfl rfl rfl ?_
          refine TL_pure rfl rfl rfl rfl (op_assign rfl) ?_
          refine TL_nil ?_
          refine T_keepH [6, 7] [11, 19, 315] rfl rfl rfl rfl (by rw [hF]; rfl) ?_
          refine T_deepen 19 (p' := false) (List.map a_i64 u2.1) (by rw [hF]; rfl) rfl (ElR.map (f := a_i64) (g := a_i64) (fun _ => ⟨⟨rfl, rfl⟩, trivial⟩) u2.1) rfl rfl rfl ?_
          refine T_deepen 315 (p' := false) (List.map a_i64 u3.1) (by rw [hF]; rfl) rfl (ElR.map (f := a_i64) (g := a_i64) (fun _ => ⟨⟨rfl, rfl⟩, trivial⟩) u3.1) rfl rfl rfl ?_
          refine T_ren [(11, 11), (19, 1000), (315, 1001)] rfl rfl rfl (by rw [hF]; rfl) ?_
          refine T_ret ?_
          obtain rfl := someI hm
          refine ⟨[_, _], [1000, 1001], ⟨⟨_, _, rfl, rfl, .inr ⟨ag91, _, _, sz91, rfl, rfl⟩⟩, rfl, trivial⟩, ?_, rfl, rfl, rfl, rfl⟩
          rfl
        · unfold m_spec_l06Mix_L3 at hm
          refine T_seq ?_
          refine T_seq ?_
          refine T_region ?_
          refine TL_pure rfl rfl rfl rfl (op_move rfl) ?_
          refine TL_pure rfl rfl rfl rfl (op_fieldAddr fa91_2 rfl rfl) ?_
          refine TL_pure rfl rfl rfl rfl (op_load_one ag26 rfl rfl) ?_
          refine TL_pure rfl rfl rfl rfl (op_lenO Try.underlying26 rfl rfl (List.length_map _)) ?_
          refine TL_fact (fun _ _ _ hr => RelP.owLen (id := 315) rfl hr) (fun hlen173 => ?_)
          rw [List.length_map] at hlen173
          refine TL_pure rfl rfl rfl rfl (op_lss rfl rfl) ?_
          refine TL_nil ?_
          refine T_cond rfl (fun hq => ?_) (fun hq => ?_)
          · replace hm := condT hq hm
            refine T_skip ?_
            refine T_seq ?_
            refine T_block ?_
            refine T_seq ?_
            refine T_region ?_
            refine TL_pure rfl rfl rfl rfl (op_fieldAddr fa91_2 rfl rfl) ?_
            refine TL_pure rfl rfl rfl rfl (op_load_one ag26 rfl rfl) ?_
            refine TL_pure rfl rfl rfl rfl (op_move rfl) ?_
            obtain ⟨x180, hx180, hm⟩ := bindS hm
            refine TL_pure rfl rfl rfl rfl (op_indexO el26 rfl rfl rfl hx180) ?_
            refine TL_pure rfl rfl rfl rfl (op_loadT1 ag2 rfl rfl ((getI_spec hx180).2) rfl rfl) ?_
            refine TL_pure rfl rfl rfl rfl (op_move rfl) ?_
            obtain ⟨q183, hq183, hm⟩ := bindS hm
            refine TL_pure rfl rfl rfl rfl (op_quoT rfl rfl hq183) ?_
            refine TL_pure rfl rfl rfl rfl (op_indexO el26 rfl rfl rfl hx180) ?_
            refine TL_storeT sz2 rfl rfl ((getI_spec hx180).2) (v' := q183) rfl rfl rfl rfl rfl rfl rfl rfl rfl rfl ?_
            refine TL_nil ?_
            refine T_region ?_
            refine TL_pure rfl rfl rfl rfl (op_move rfl) ?_
            refine TL_pure rfl rfl rfl rfl (op_move rfl) ?_
            refine TL_split 186 rfl rfl rfl (fun hq => ?_) (fun hq => ?_)
            · replace hm := condT hq hm
              refine TL_want rfl rfl ?_
              refine TL_pure rfl rfl rfl rfl (op_fieldAddr fa91_2 rfl rfl) ?_
              refine TL_want rfl rfl ?_
              refine TL_pure rfl rfl rfl rfl (op_load_one ag26 rfl rfl) ?_
              refine TL_want rfl rfl ?_
              refine TL_pure rfl rfl rfl rfl (op_move rfl) ?_
              refine TL_want rfl rfl ?_
              obtain ⟨x190, hx190, hm⟩ := bindS hm
              refine TL_pure rfl rfl rfl rfl (op_indexO el26 rfl rfl rfl hx190) ?_
              refine TL_want rfl rfl ?_
              refine TL_pure rfl rfl rfl rfl (op_loadT1 ag2 rfl rfl ((getI_spec hx190).2) rfl rfl) ?_
              refine TL_want rfl rfl ?_
              obtain ⟨r192, hr192, hm⟩ := bindS hm
              refine TL_callF (c_spec_l02Number x190 r192 hr192) Try.call112 rfl rfl rfl rfl rfl ?_
              refine TL_pure rfl rfl rfl rfl (op_pick_true rfl rfl) ?_
              refine TL_pure rfl rfl rfl rfl (op_assign rfl) ?_
              refine TL_nil ?_
              refine T_region ?_
              refine TL_pure rfl rfl rfl rfl (op_move rfl) ?_
              refine TL_pure rfl rfl rfl rfl (op_addW rfl rfl) ?_
              refine TL_pure rfl rfl rfl rfl (op_assign rfl) ?_
              refine TL_nil ?_
              refine TR_keepH [6, 10, 11, 14, 16] [11, 15, 19, 315] rfl rfl rfl rfl (by rw [hF]; rfl) ?_
              obtain rfl := someI hm
              have hn := CtlOK_next hc3
              exact hn _ rfl
            · replace hm := condF hq hm
              refine TL_pass rfl rfl rfl rfl rfl rfl rfl ?_
              refine TL_pass rfl rfl rfl rfl rfl rfl rfl ?_
              refine TL_pass rfl rfl rfl rfl rfl rfl rfl ?_
              refine TL_pass rfl rfl rfl rfl rfl rfl rfl ?_
              refine TL_pass rfl rfl rfl rfl rfl rfl rfl ?_
              refine TL_pass rfl rfl rfl rfl rfl rfl rfl ?_
              refine TL_pure rfl rfl rfl rfl (op_pick_false rfl rfl) ?_
              refine TL_pure rfl rfl rfl rfl (op_assign rfl) ?_
              refine TL_nil ?_
              refine T_region ?_
              refine TL_pure rfl rfl rfl rfl (op_move rfl) ?_
              refine TL_pure rfl rfl rfl rfl (op_addW rfl rfl) ?_
              refine TL_pure rfl rfl rfl rfl (op_assign rfl) ?_
              refine TL_nil ?_
              refine TR_keepH [6, 10, 11, 14, 16] [11, 15, 19, 315] rfl rfl rfl rfl (by rw [hF]; rfl) ?_
              obtain rfl := someI hm
              have hn := CtlOK_next hc3
              exact hn _ rfl
          · replace hm := condF hq hm
            refine T_keepH [6, 11, 14] [11, 15, 19, 315] rfl rfl rfl rfl (by rw [hF]; rfl) ?_
            refine T_exit ?_
            obtain rfl := someI hm
            have hn := CtlOK_out hc3
            exact hx3 (s3.1, s3.2.1) hn
      · unfold m_spec_l06Mix_L2 at hm
        refine T_seq ?_
        refine T_seq ?_
        refine T_region ?_
        refine TL_pure rfl rfl rfl rfl (op_move rfl) ?_
        refine TL_pure rfl rfl rfl rfl (op_fieldAddr fa91_1 rfl rfl) ?_
        refine TL_pure rfl rfl rfl rfl (op_load_one ag26 rfl rfl) ?_
        refine TL_pure rfl rfl rfl rfl (op_lenO Try.underlying26 rfl rfl (List.length_map _)) ?_
        refine TL_fact (fun _ _ _ hr => RelP.owLen (id := 19) rfl hr) (fun hlen149 => ?_)
        rw [List.length_map] at hlen149
        refine TL_pure rfl rfl rfl rfl (op_lss rfl rfl) ?_
        refine TL_nil ?_
        refine T_cond rfl (fun hq => ?_) (fun hq => ?_)
        · replace hm := condT hq hm
          refine T_skip ?_
          refine T_seq ?_
          refine T_block ?_
          refine T_seq ?_
          refine T_region ?_
          refine TL_pure rfl rfl rfl rfl (op_fieldAddr fa91_1 rfl rfl) ?_
          refine TL_pure rfl rfl rfl rfl (op_load_one ag26 rfl rfl) ?_
          refine TL_pure rfl rfl rfl rfl (op_move rfl) ?_
          obtain ⟨x156, hx156, hm⟩ := bindS hm
          refine TL_pure rfl rfl rfl rfl (op_indexO el26 rfl rfl rfl hx156) ?_
          refine TL_pure rfl rfl rfl rfl (op_loadT1 ag2 rfl rfl ((getI_spec hx156).2) rfl rfl) ?_
          refine TL_pure rfl rfl rfl rfl (op_move rfl) ?_
          obtain ⟨q159, hq159, hm⟩ := bindS hm
          refine TL_pure rfl rfl rfl rfl (op_quoT rfl rfl hq159) ?_
          refine TL_pure rfl rfl rfl rfl (op_indexO el26 rfl rfl rfl hx156) ?_
          refine TL_storeT sz2 rfl rfl ((getI_spec hx156).2) (v' := q159) rfl rfl rfl rfl rfl rfl rfl rfl rfl rfl ?_
          refine TL_nil ?_
          refine T_region ?_
          refine TL_pure rfl rfl rfl rfl (op_move rfl) ?_
          refine TL_pure rfl rfl rfl rfl (op_move rfl) ?_
          refine TL_split 162 rfl rfl rfl (fun hq => ?_) (fun hq => ?_)
          · replace hm := condT hq hm
            refine TL_want rfl rfl ?_
            refine TL_pure rfl rfl rfl rfl (op_fieldAddr fa91_1 rfl rfl) ?_
            refine TL_want rfl rfl ?_
            refine TL_pure rfl rfl rfl rfl (op_load_one ag26 rfl rfl) ?_
            refine TL_want rfl rfl ?_
            refine TL_pure rfl rfl rfl rfl (op_move rfl) ?_
            refine TL_want rfl rfl ?_
            obtain ⟨x166, hx166, hm⟩ := bindS hm
            refine TL_pure rfl rfl rfl rfl (op_indexO el26 rfl rfl rfl hx166) ?_
            refine TL_want rfl rfl ?_
            refine TL_pure rfl rfl rfl rfl (op_loadT1 ag2 rfl rfl ((getI_spec hx166).2) rfl rfl) ?_
            refine TL_want rfl rfl ?_
            obtain ⟨r168, hr168, hm⟩ := bindS hm
            refine TL_callF (c_spec_l02Number x166 r168 hr168) Try.call112 rfl rfl rfl rfl rfl ?_
            refine TL_pure rfl rfl rfl rfl (op_pick_true rfl rfl) ?_
            refine TL_pure rfl rfl rfl rfl (op_assign rfl) ?_
            refine TL_nil ?_
            refine T_region ?_
            refine TL_pure rfl rfl rfl rfl (op_move rfl) ?_
            refine TL_pure rfl rfl rfl rfl (op_addW rfl rfl) ?_
            refine TL_pure rfl rfl rfl rfl (op_assign rfl) ?_
            refine TL_nil ?_
            refine TR_keepH [6, 10, 11, 14, 15] [11, 15, 19, 315] rfl rfl rfl rfl (by rw [hF]; rfl) ?_
            obtain rfl := someI hm
            have hn := CtlOK_next hc2
            exact hn _ rfl
          · replace hm := condF hq hm
            refine TL_pass rfl rfl rfl rfl rfl rfl rfl ?_
            refine TL_pass rfl rfl rfl rfl rfl rfl rfl ?_
            refine TL_pass rfl rfl rfl rfl rfl rfl rfl ?_
            refine TL_pass rfl rfl rfl rfl rfl rfl rfl ?_
            refine TL_pass rfl rfl rfl rfl rfl rfl rfl ?_
            refine TL_pass rfl rfl rfl rfl rfl rfl rfl ?_
            refine TL_pure rfl rfl rfl rfl (op_pick_false rfl rfl) ?_
            refine TL_pure rfl rfl rfl rfl (op_assign rfl) ?_
            refine TL_nil ?_
            refine T_region ?_
            refine TL_pure rfl rfl rfl rfl (op_move rfl) ?_
            refine TL_pure rfl rfl rfl rfl (op_addW rfl rfl) ?_
            refine TL_pure rfl rfl rfl rfl (op_assign rfl) ?_
            refine TL_nil ?_
            refine TR_keepH [6, 10, 11, 14, 15] [11, 15, 19, 315] rfl rfl rfl rfl (by rw [hF]; rfl) ?_
            obtain rfl := someI hm
            have hn := CtlOK_next hc2
            exact hn _ rfl
        · replace hm := condF hq hm
          refine T_keepH [6, 10, 11, 14] [11, 15, 19, 315] rfl rfl rfl rfl (by rw [hF]; rfl) ?_
          refine T_exit ?_
          obtain rfl := someI hm
          have hn := CtlOK_out hc2
          exact hx2 (s2.1, s2.2.1) hn
    · unfold m_spec_l06Mix_L1 at hm
      refine T_seq ?_
      refine T_seq ?_
      refine T_region ?_
      refine TL_pure rfl rfl rfl rfl (op_move rfl) ?_
      refine TL_pure rfl rfl rfl rfl (op_move rfl) ?_
      refine TL_pure rfl rfl rfl rfl (op_nilCheck rfl rfl) ?_
      refine TL_pure rfl rfl rfl rfl (op_fieldAddr fa91_2 rfl rfl) ?_
      refine TL_pure rfl rfl rfl rfl (op_load_one ag26 rfl rfl) ?_
      refine TL_pure rfl rfl rfl rfl (op_lenT Try.underlying26 rfl (List.length_map _)) ?_
      refine TL_fact (fun _ _ _ hr => RelP.slLen (i := 102) rfl hr) (fun hlen103 => ?_)
      rw [List.length_map] at hlen103
      refine TL_pure rfl rfl rfl rfl (op_lss rfl rfl) ?_
      refine TL_nil ?_
      refine T_cond rfl (fun hq => ?_) (fun hq => ?_)
      · replace hm := condT hq hm
        refine T_skip ?_
        refine T_seq ?_
        refine T_block ?_
        refine T_join (fun (j1 : List Int) => ⟨[(0, .cp [.int .i64 p0.c, .sl 1 (List.map a_i64 p0.list), .sl 1 (List.map a_i64 p0.times)]), (1, .cp [.int .i64 p1.c, .sl 1 (List.map a_i64 p1.list), .sl 1 (List.map a_i64 p1.times)]), (6, .ptr 11 0 0), (8, .int .i64 q37), (9, .int .i64 q40), (10, .int .i64 s1.1), (11, .ptr 15 0 0), (13, .int .i64 s1.2.2)], [(11, .box [.int .i64 (0 : Int), .snil, .snil]), (15, .box [.int .i64 (w64 ((w64 (q40 * p0.c)) + (w64 (q37 * p1.c)))), .ow 19, .ow 315]), (19, .arr ⟨false, false⟩ 1 2 (List.map a_i64 u0.2)), (315, .arr ⟨false, false⟩ 1 2 (List.map a_i64 j1))]⟩) (fun j1 => m_spec_l06Mix_J1 s1 j1 = some c1) (fun j1 hm => ?_) (fun hj1 => ?_)
        · unfold m_spec_l06Mix_J1 at hm
          refine T_region ?_
          refine TL_pure rfl rfl rfl rfl (op_move rfl) ?_
          refine TL_pure rfl rfl rfl rfl (op_fieldAddr fa91_2 rfl rfl) ?_
          refine TL_pure rfl rfl rfl rfl (op_load_one ag26 rfl rfl) ?_
          refine TL_pure rfl rfl rfl rfl (op_move rfl) ?_
          obtain ⟨x135, hx135, hm⟩ := bindS hm
          refine TL_pure rfl rfl rfl rfl (op_indexO el26 rfl rfl rfl hx135) ?_
          refine TL_pure rfl rfl rfl rfl (op_loadT1 ag2 rfl rfl ((getI_spec hx135).2) rfl rfl) ?_
          obtain ⟨r137, hr137, hm⟩ := bindS hm
          refine TL_callF (c_spec_l06Gcd s1.1 x135 r137 hr137) Try.call118 rfl rfl rfl rfl rfl ?_
          refine TL_pure rfl rfl rfl rfl (op_assign rfl) ?_
          refine TL_nil ?_
          refine T_region ?_
          refine TL_pure rfl rfl rfl rfl (op_move rfl) ?_
          refine TL_pure rfl rfl rfl rfl (op_addW rfl rfl) ?_
          refine TL_pure rfl rfl rfl rfl (op_assign rfl) ?_
          refine TL_nil ?_
          refine TR_keepH [0, 1, 6, 8, 9, 10, 11, 13] [11, 15, 19, 315] rfl rfl rfl rfl (by rw [hF]; rfl) ?_
          obtain rfl := someI hm
          have hn := CtlOK_next hc1
          exact hn _ rfl
        · refine T_drawZ [21, 22, 24] mix (by kernel_rfl) rfl ?_
          obtain ⟨x115, hx115, hm⟩ := bindS hm
          obtain ⟨x124, hx124, hm⟩ := bindS hm
          obtain ⟨q129, hq129, hm⟩ := bindS hm
          refine TZ_pure 0 (by kernel_rfl) rfl rfl rfl rfl rfl (op_fieldAddr fa91_2 rfl rfl) ?_
          refine TZ_pure 2 (by kernel_rfl) rfl rfl rfl rfl rfl (op_move rfl) ?_
          refine TZ_pure 3 (by kernel_rfl) rfl rfl rfl rfl rfl (op_move rfl) ?_
          refine TZ_pure 4 (by kernel_rfl) rfl rfl rfl rfl rfl (op_nilCheck rfl rfl) ?_
          refine TZ_pure 5 (by kernel_rfl) rfl rfl rfl rfl rfl (op_fieldAddr fa91_2 rfl rfl) ?_
          refine TZ_pure 7 (by kernel_rfl) rfl rfl rfl rfl rfl (op_move rfl) ?_
          refine TZ_pure 11 (by kernel_rfl) rfl rfl rfl rfl rfl (op_move rfl) ?_
          refine TZ_pure 12 (by kernel_rfl) rfl rfl rfl rfl rfl (op_move rfl) ?_
          refine TZ_pure 13 (by kernel_rfl) rfl rfl rfl rfl rfl (op_nilCheck rfl rfl) ?_
          refine TZ_pure 14 (by kernel_rfl) rfl rfl rfl rfl rfl (op_fieldAddr fa91_2 rfl rfl) ?_
          refine TZ_pure 16 (by kernel_rfl) rfl rfl rfl rfl rfl (op_move rfl) ?_
          refine TZ_each [1, 6, 15] (by kernel_rfl) rfl ?_
          refine ⟨?_, ?_, ?_⟩
          · refine ⟨_, rfl, ?_⟩
            refine TL_pure rfl rfl rfl rfl (op_load_one ag26 rfl rfl) ?_
            refine TL_nil ?_
            refine TZ_each [6, 15] (by kernel_rfl) rfl ?_
            refine ⟨?_, ?_⟩
            · refine ⟨_, rfl, ?_⟩
              refine TL_pure rfl rfl rfl rfl (op_load_one ag26 rfl rfl) ?_
              refine TL_nil ?_
              refine TZ_pure 8 (by kernel_rfl) rfl rfl rfl rfl rfl (op_indexT el26 rfl rfl hx115 rfl) ?_
              refine TZ_each [9, 15] (by kernel_rfl) rfl ?_
              refine ⟨?_, ?_⟩
              · refine ⟨_, rfl, ?_⟩
                refine TL_pure rfl rfl rfl rfl (op_load_one ag2 rfl rfl) ?_
                refine TL_nil ?_
                refine TZ_pure 10 (by kernel_rfl) rfl rfl rfl rfl rfl (op_mulW rfl rfl) ?_
                refine TZ_one 15 (by kernel_rfl) rfl ?_
                refine TL_pure rfl rfl rfl rfl (op_load_one ag26 rfl rfl) ?_
                refine TL_nil ?_
                refine TZ_pure 17 (by kernel_rfl) rfl rfl rfl rfl rfl (op_indexT el26 rfl rfl hx124 rfl) ?_
                refine TZ_one 18 (by kernel_rfl) rfl ?_
                refine TL_pure rfl rfl rfl rfl (op_load_one ag2 rfl rfl) ?_
                refine TL_nil ?_
                refine TZ_pure 19 (by kernel_rfl) rfl rfl rfl rfl rfl (op_mulW rfl rfl) ?_
                refine TZ_pure 20 (by kernel_rfl) rfl rfl rfl rfl rfl (op_addW rfl rfl) ?_
                refine TZ_one 21 (by kernel_rfl) rfl ?_
                refine TL_buildSlice 572 (es := List.map a_i64 [(w64 ((w64 (q40 * x115)) + (w64 (q37 * x124))))]) el26 z2 rfl rfl rfl rfl rfl rfl rfl rfl rfl ?_
                refine TL_nil ?_
                refine TZ_one 22 (by kernel_rfl) rfl ?_
                refine TL_appendT (f := a_i64) (a := s1.2.1) (b := [(w64 ((w64 (q40 * x115)) + (w64 (q37 * x124))))]) el26 z2 rfl rfl rfl rfl rfl rfl rfl (capI_spec hq129) rfl rfl rfl rfl rfl ?_
                refine TL_nil ?_
                refine TZ_pure 23 (by kernel_rfl) rfl rfl rfl rfl rfl (op_fieldAddr fa91_2 rfl rfl) ?_
                refine TZ_one 24 (by kernel_rfl) rfl ?_
                refine TL_store_box sz26 rfl rfl rfl rfl rfl rfl rfl rfl rfl ?_
                refine TL_nil ?_
                refine TZ_done (by kernel_rfl) ?_
                refine T_keepH [0, 1, 6, 8, 9, 10, 11, 13] [11, 15, 19, 315] rfl rfl rfl rfl (by rw [hF]; rfl) ?_
                exact hj1 (s1.2.1 ++ [(w64 ((w64 (q40 * x115)) + (w64 (q37 * x124))))]) hm
              · refine ⟨_, rfl, ?_⟩
                refine TL_pure rfl rfl rfl rfl (op_load_one ag26 rfl rfl) ?_
                refine TL_nil ?_
                refine TZ_pure 17 (by kernel_rfl) rfl rfl rfl rfl rfl (op_indexT el26 rfl rfl hx124 rfl) ?_
                refine TZ_each [9, 18] (by kernel_rfl) rfl ?_
                refine ⟨?_, ?_⟩
                · refine ⟨_, rfl, ?_⟩
                  refine TL_pure rfl rfl rfl rfl (op_load_one ag2 rfl rfl) ?_
                  refine TL_nil ?_
                  refine TZ_pure 10 (by kernel_rfl) rfl rfl rfl rfl rfl (op_mulW rfl rfl) ?_
                  refine TZ_one 18 (by kernel_rfl) rfl ?_
                  refine TL_pure rfl rfl rfl rfl (op_load_one ag2 rfl rfl) ?_
                  refine TL_nil ?_
                  refine TZ_pure 19 (by kernel_rfl) rfl rfl rfl rfl rfl (op_mulW rfl rfl) ?_
                  refine TZ_pure 20 (by kernel_rfl) rfl rfl rfl rfl rfl (op_addW rfl rfl) ?_
                  refine TZ_one 21 (by kernel_rfl) rfl ?_
                  refine TL_buildSlice 573 (es := List.map a_i64 [(w64 ((w64 (q40 * x115)) + (w64 (q37 * x124))))]) el26 z2 rfl rfl rfl rfl rfl rfl rfl rfl rfl ?_
                  refine TL_nil ?_
                  refine TZ_one 22 (by kernel_rfl) rfl ?_
                  refine TL_appendT (f := a_i64) (a := s1.2.1) (b := [(w64 ((w64 (q40 * x115)) + (w64 (q37 * x124))))]) el26 z2 rfl rfl rfl rfl rfl rfl rfl (capI_spec hq129) rfl rfl rfl rfl rfl ?_
                  refine TL_nil ?_
                  refine TZ_pure 23 (by kernel_rfl) rfl rfl rfl rfl rfl (op_fieldAddr fa91_2 rfl rfl) ?_
                  refine TZ_one 24 (by kernel_rfl) rfl ?_
                  refine TL_store_box sz26 rfl rfl rfl rfl rfl rfl rfl rfl rfl ?_
                  refine TL_nil ?_
                  refine TZ_done (by kernel_rfl) ?_
                  refine T_keepH [0, 1, 6, 8, 9, 10, 11, 13] [11, 15, 19, 315] rfl rfl rfl rfl (by rw [hF]; rfl) ?_
                  exact hj1 (s1.2.1 ++ [(w64 ((w64 (q40 * x115)) + (w64 (q37 * x124))))]) hm
                · refine ⟨_, rfl, ?_⟩
                  refine TL_pure rfl rfl rfl rfl (op_load_one ag2 rfl rfl) ?_
                  refine TL_nil ?_
                  refine TZ_pure 19 (by kernel_rfl) rfl rfl rfl rfl rfl (op_mulW rfl rfl) ?_
                  refine TZ_one 9 (by kernel_rfl) rfl ?_
                  refine TL_pure rfl rfl rfl rfl (op_load_one ag2 rfl rfl) ?_
                  refine TL_nil ?_
                  refine TZ_pure 10 (by kernel_rfl) rfl rfl rfl rfl rfl (op_mulW rfl rfl) ?_
                  refine TZ_pure 20 (by kernel_rfl) rfl rfl rfl rfl rfl (op_addW rfl rfl) ?_
                  refine TZ_one 21 (by kernel_rfl) rfl ?_
                  refine TL_buildSlice 574 (es := List.map a_i64 [(w64 ((w64 (q40 * x115)) + (w64 (q37 * x124))))]) el26 z2 rfl rfl rfl rfl rfl rfl rfl rfl rfl ?_
                  refine TL_nil ?_
                  refine TZ_one 22 (by kernel_rfl) rfl ?_
                  refine TL_appendT (f := a_i64) (a := s1.2.1) (b := [(w64 ((w64 (q40 * x115)) + (w64 (q37 * x124))))]) el26 z2 rfl rfl rfl rfl rfl rfl rfl (capI_spec hq129) rfl rfl rfl rfl rfl ?_
                  refine TL_nil ?_
                  refine TZ_pure 23 (by kernel_rfl) rfl rfl rfl rfl rfl (op_fieldAddr fa91_2 rfl rfl) ?_
                  refine TZ_one 24 (by kernel_rfl) rfl ?_
                  refine TL_store_box sz26 rfl rfl rfl rfl rfl rfl rfl rfl rfl ?_
                  refine TL_nil ?_
                  refine TZ_done (by kernel_rfl) ?_
                  refine T_keepH [0, 1, 6, 8, 9, 10, 11, 13] [11, 15, 19, 315] rfl rfl rfl rfl (by rw [hF]; rfl) ?_
                  exact hj1 (s1.2.1 ++ [(w64 ((w64 (q40 * x115)) + (w64 (q37 * x124))))]) hm
            · refine ⟨_, rfl, ?_⟩
              refine TL_pure rfl rfl rfl rfl (op_load_one ag26 rfl rfl) ?_
              refine TL_nil ?_
              refine TZ_pure 17 (by kernel_rfl) rfl rfl rfl rfl rfl (op_indexT el26 rfl rfl hx124 rfl) ?_
              refine TZ_each [6, 18] (by kernel_rfl) rfl ?_
              refine ⟨?_, ?_⟩
              · refine ⟨_, rfl, ?_⟩
                refine TL_pure rfl rfl rfl rfl (op_load_one ag26 rfl rfl) ?_
                refine TL_nil ?_
                refine TZ_pure 8 (by kernel_rfl) rfl rfl rfl rfl rfl (op_indexT el26 rfl rfl hx115 rfl) ?_
                refine TZ_each [9, 18] (by kernel_rfl) rfl ?_
                refine ⟨?_, ?_⟩
                · refine ⟨_, rfl, ?_⟩
                  refine TL_pure rfl rfl rfl rfl (op_load_one ag2 rfl rfl) ?_
                  refine TL_nil ?_
                  refine TZ_pure 10 (by kernel_rfl) rfl rfl rfl rfl rfl (op_mulW rfl rfl) ?_
                  refine TZ_one 18 (by kernel_rfl) rfl ?_
                  refine TL_pure rfl rfl rfl rfl (op_load_one ag2 rfl rfl) ?_
                  refine TL_nil ?_
                  refine TZ_pure 19 (by kernel_rfl) rfl rfl rfl rfl rfl (op_mulW rfl rfl) ?_
                  refine TZ_pure 20 (by kernel_rfl) rfl rfl rfl rfl rfl (op_addW rfl rfl) ?_
                  refine TZ_one 21 (by kernel_rfl) rfl ?_
                  refine TL_buildSlice 575 (es := List.map a_i64 [(w64 ((w64 (q40 * x115)) + (w64 (q37 * x124))))]) el26 z2 rfl rfl rfl rfl rfl rfl rfl rfl rfl ?_
                  refine TL_nil ?_
                  refine TZ_one 22 (by kernel_rfl) rfl ?_
                  refine TL_appendT (f := a_i64) (a := s1.2.1) (b := [(w64 ((w64 (q40 * x115)) + (w64 (q37 * x124))))]) el26 z2 rfl rfl rfl rfl rfl rfl rfl (capI_spec hq129) rfl rfl rfl rfl rfl ?_
                  refine TL_nil ?_
                  refine TZ_pure 23 (by kernel_rfl) rfl rfl rfl rfl rfl (op_fieldAddr fa91_2 rfl rfl) ?_
                  refine TZ_one 24 (by kernel_rfl) rfl ?_
                  refine TL_store_box sz26 rfl rfl rfl rfl rfl rfl rfl rfl rfl ?_
                  refine TL_nil ?_
                  refine TZ_done (by kernel_rfl) ?_
                  refine T_keepH [0, 1, 6, 8, 9, 10, 11, 13] [11, 15, 19, 315] rfl rfl rfl rfl (by rw [hF]; rfl) ?_
                  exact hj1 (s1.2.1 ++ [(w64 ((w64 (q40 * x115)) + (w64 (q37 * x124))))]) hm
                · refine ⟨_, rfl, ?_⟩
                  refine TL_pure rfl rfl rfl rfl (op_load_one ag2 rfl rfl) ?_
                  refine TL_nil ?_
                  refine TZ_pure 19 (by kernel_rfl) rfl rfl rfl rfl rfl (op_mulW rfl rfl) ?_
                  refine TZ_one 9 (by kernel_rfl) rfl ?_
                  refine TL_pure rfl rfl rfl rfl (op_load_one ag2 rfl rfl) ?_
                  refine TL_nil ?_
                  refine TZ_pure 10 (by kernel_rfl) rfl rfl rfl rfl rfl (op_mulW rfl rfl) ?_
                  refine TZ_pure 20 (by kernel_rfl) rfl rfl rfl rfl rfl (op_addW rfl rfl) ?_
                  refine TZ_one 21 (by kernel_rfl) rfl ?_
                  refine TL_buildSlice 576 (es := List.map a_i64 [(w64 ((w64 (q40 * x115)) + (w64 (q37 * x124))))]) el26 z2 rfl rfl rfl rfl rfl rfl rfl rfl rfl ?_
                  refine TL_nil ?_
                  refine TZ_one 22 (by kernel_rfl) rfl ?_
                  refine TL_appendT (f := a_i64) (a := s1.2.1) (b := [(w64 ((w64 (q40 * x115)) + (w64 (q37 * x124))))]) el26 z2 rfl rfl rfl rfl rfl rfl rfl (capI_spec hq129) rfl rfl rfl rfl rfl ?_
                  refine TL_nil ?_
                  refine TZ_pure 23 (by kernel_rfl) rfl rfl rfl rfl rfl (op_fieldAddr fa91_2 rfl rfl) ?_
                  refine TZ_one 24 (by kernel_rfl) rfl ?_
                  refine TL_store_box sz26 rfl rfl rfl rfl rfl rfl rfl rfl rfl ?_
                  refine TL_nil ?_
                  refine TZ_done (by kernel_rfl) ?_
                  refine T_keepH [0, 1, 6, 8, 9, 10, 11, 13] [11, 15, 19, 315] rfl rfl rfl rfl (by rw [hF]; rfl) ?_
                  exact hj1 (s1.2.1 ++ [(w64 ((w64 (q40 * x115)) + (w64 (q37 * x124))))]) hm
              · refine ⟨_, rfl, ?_⟩
                refine TL_pure rfl rfl rfl rfl (op_load_one ag2 rfl rfl) ?_
                refine TL_nil ?_
                refine TZ_pure 19 (by kernel_rfl) rfl rfl rfl rfl rfl (op_mulW rfl rfl) ?_
                refine TZ_one 6 (by kernel_rfl) rfl ?_
                refine TL_pure rfl rfl rfl rfl (op_load_one ag26 rfl rfl) ?_
                refine TL_nil ?_
                refine TZ_pure 8 (by kernel_rfl) rfl rfl rfl rfl rfl (op_indexT el26 rfl rfl hx115 rfl) ?_
                refine TZ_one 9 (by kernel_rfl) rfl ?_
                refine TL_pure rfl rfl rfl rfl (op_load_one ag2 rfl rfl) ?_
                refine TL_nil ?_
                refine TZ_pure 10 (by kernel_rfl) rfl rfl rfl rfl rfl (op_mulW rfl rfl) ?_
                refine TZ_pure 20 (by kernel_rfl) rfl rfl rfl rfl rfl (op_addW rfl rfl) ?_
                refine TZ_one 21 (by kernel_rfl) rfl ?_
                refine TL_buildSlice 577 (es := List.map a_i64 [(w64 ((w64 (q40 * x115)) + (w64 (q37 * x124))))]) el26 z2 rfl rfl rfl rfl rfl rfl rfl rfl rfl ?_
                refine TL_nil ?_
                refine TZ_one 22 (by kernel_rfl) rfl ?_
                refine TL_appendT (f := a_i64) (a := s1.2.1) (b := [(w64 ((w64 (q40 * x115)) + (w64 (q37 * x124))))]) el26 z2 rfl rfl rfl rfl rfl rfl rfl (capI_spec hq129) rfl rfl rfl rfl rfl ?_
                refine TL_nil ?_
                refine TZ_pure 23 (by kernel_rfl) rfl rfl rfl rfl rfl (op_fieldAddr fa91_2 rfl rfl) ?_
                refine TZ_one 24 (by kernel_rfl) rfl ?_
                refine TL_store_box sz26 rfl rfl rfl rfl rfl rfl rfl rfl rfl ?_
                refine TL_nil ?_
                refine TZ_done (by kernel_rfl) ?_
                refine T_keepH [0, 1, 6, 8, 9, 10, 11, 13] [11, 15, 19, 315] rfl rfl rfl rfl (by rw [hF]; rfl) ?_
                exact hj1 (s1.2.1 ++ [(w64 ((w64 (q40 * x115)) + (w64 (q37 * x124))))]) hm
          · refine ⟨_, rfl, ?_⟩
            refine TL_pure rfl rfl rfl rfl (op_load_one ag26 rfl rfl) ?_
            refine TL_nil ?_
            refine TZ_pure 8 (by kernel_rfl) rfl rfl rfl rfl rfl (op_indexT el26 rfl rfl hx115 rfl) ?_
            refine TZ_each [1, 9, 15] (by kernel_rfl) rfl ?_
            refine ⟨?_, ?_, ?_⟩
            · refine ⟨_, rfl, ?_⟩
              refine TL_pure rfl rfl rfl rfl (op_load_one ag26 rfl rfl) ?_
              refine TL_nil ?_
              refine TZ_each [9, 15] (by kernel_rfl) rfl ?_
              refine ⟨?_, ?_⟩
              · refine ⟨_, rfl, ?_⟩
                refine TL_pure rfl rfl rfl rfl (op_load_one ag2 rfl rfl) ?_
                refine TL_nil ?_
                refine TZ_pure 10 (by kernel_rfl) rfl rfl rfl rfl rfl (op_mulW rfl rfl) ?_
                refine TZ_one 15 (by kernel_rfl) rfl ?_
                refine TL_pure rfl rfl rfl rfl (op_load_one ag26 rfl rfl) ?_
                refine TL_nil ?_
                refine TZ_pure 17 (by kernel_rfl) rfl rfl rfl rfl rfl (op_indexT el26 rfl rfl hx124 rfl) ?_
                refine TZ_one 18 (by kernel_rfl) rfl ?_
                refine TL_pure rfl rfl rfl rfl (op_load_one ag2 rfl rfl) ?_
                refine TL_nil ?_
                refine TZ_pure 19 (by kernel_rfl) rfl rfl rfl rfl rfl (op_mulW rfl rfl) ?_
                refine TZ_pure 20 (by kernel_rfl) rfl rfl rfl rfl rfl (op_addW rfl rfl) ?_
                refine TZ_one 21 (by kernel_rfl) rfl ?_
                refine TL_buildSlice 578 (es := List.map a_i64 [(w64 ((w64 (q40 * x115)) + (w64 (q37 * x124))))]) el26 z2 rfl rfl rfl rfl rfl rfl rfl rfl rfl ?_
                refine TL_nil ?_
                refine TZ_one 22 (by kernel_rfl) rfl ?_
                refine TL_appendT (f := a_i64) (a := s1.2.1) (b := [(w64 ((w64 (q40 * x115)) + (w64 (q37 * x124))))]) el26 z2 rfl rfl rfl rfl rfl rfl rfl (capI_spec hq129) rfl rfl rfl rfl rfl ?_
                refine TL_nil ?_
                refine TZ_pure 23 (by kernel_rfl) rfl rfl rfl rfl rfl (op_fieldAddr fa91_2 rfl rfl) ?_
                refine TZ_one 24 (by kernel_rfl) rfl ?_
                refine TL_store_box sz26 rfl rfl rfl rfl rfl rfl rfl rfl rfl ?_
                refine TL_nil ?_
                refine TZ_done (by kernel_rfl) ?_
                refine T_keepH [0, 1, 6, 8, 9, 10, 11, 13] [11, 15, 19, 315] rfl rfl rfl rfl (by rw [hF]; rfl) ?_
                exact hj1 (s1.2.1 ++ [(w64 ((w64 (q40 * x115)) + (w64 (q37 * x124))))]) hm
              · refine ⟨_, rfl, ?_⟩
                refine TL_pure rfl rfl rfl rfl (op_load_one ag26 rfl rfl) ?_
                refine TL_nil ?_
                refine TZ_pure 17 (by kernel_rfl) rfl rfl rfl rfl rfl (op_indexT el26 rfl rfl hx124 rfl) ?_
                refine TZ_each [9, 18] (by kernel_rfl) rfl ?_
                refine ⟨?_, ?_⟩
                · refine ⟨_, rfl, ?_⟩
                  refine TL_pure rfl rfl rfl rfl (op_load_one ag2 rfl rfl) ?_
                  refine TL_nil ?_
                  refine TZ_pure 10 (by kernel_rfl) rfl rfl rfl rfl rfl (op_mulW rfl rfl) ?_
                  refine TZ_one 18 (by kernel_rfl) rfl ?_
                  refine TL_pure rfl rfl rfl rfl (op_load_one ag2 rfl rfl) ?_
                  refine TL_nil ?_
                  refine TZ_pure 19 (by kernel_rfl) rfl rfl rfl rfl rfl (op_mulW rfl rfl) ?_
                  refine TZ_pure 20 (by kernel_rfl) rfl rfl rfl rfl rfl (op_addW rfl rfl) ?_
                  refine TZ_one 21 (by kernel_rfl) rfl ?_
                  refine TL_buildSlice 579 (es := List.map a_i64 [(w64 ((w64 (q40 * x115)) + (w64 (q37 * x124))))]) el26 z2 rfl rfl rfl rfl rfl rfl rfl rfl rfl ?_
                  refine TL_nil ?_
                  refine TZ_one 22 (by kernel_rfl) rfl ?_
                  refine TL_appendT (f := a_i64) (a := s1.2.1) (b := [(w64 ((w64 (q40 * x115)) + (w64 (q37 * x124))))]) el26 z2 rfl rfl rfl rfl rfl rfl rfl (capI_spec hq129) rfl rfl rfl rfl rfl ?_
                  refine TL_nil ?_
                  refine TZ_pure 23 (by kernel_rfl) rfl rfl rfl rfl rfl (op_fieldAddr fa91_2 rfl rfl) ?_
                  refine TZ_one 24 (by kernel_rfl) rfl ?_
                  refine TL_store_box sz26 rfl rfl rfl rfl rfl rfl rfl rfl rfl ?_
                  refine TL_nil ?_
                  refine TZ_done (by kernel_rfl) ?_
                  refine T_keepH [0, 1, 6, 8, 9, 10, 11, 13] [11, 15, 19, 315] rfl rfl rfl rfl (by rw [hF]; rfl) ?_
                  exact hj1 (s1.2.1 ++ [(w64 ((w64 (q40 * x115)) + (w64 (q37 * x124))))]) hm
                · refine ⟨_, rfl, ?_⟩
                  refine TL_pure rfl rfl rfl rfl (op_load_one ag2 rfl rfl) ?_
                  refine TL_nil ?_
                  refine TZ_pure 19 (by kernel_rfl) rfl rfl rfl rfl rfl (op_mulW rfl rfl) ?_
                  refine TZ_one 9 (by kernel_rfl) rfl ?_
                  refine TL_pure rfl rfl rfl rfl (op_load_one ag2 rfl rfl) ?_
                  refine TL_nil ?_
                  refine TZ_pure 10 (by kernel_rfl) rfl rfl rfl rfl rfl (op_mulW rfl rfl) ?_
                  refine TZ_pure 20 (by kernel_rfl) rfl rfl rfl rfl rfl (op_addW rfl rfl) ?_
                  refine TZ_one 21 (by kernel_rfl) rfl ?_
                  refine TL_buildSlice 580 (es := List.map a_i64 [(w64 ((w64 (q40 * x115)) + (w64 (q37 * x124))))]) el26 z2 rfl rfl rfl rfl rfl rfl rfl rfl rfl ?_
                  refine TL_nil ?_
                  refine TZ_one 22 (by kernel_rfl) rfl ?_
                  refine TL_appendT (f := a_i64) (a := s1.2.1) (b := [(w64 ((w64 (q40 * x115)) + (w64 (q37 * x124))))]) el26 z2 rfl rfl rfl rfl rfl rfl rfl (capI_spec hq129) rfl rfl rfl rfl rfl ?_
                  refine TL_nil ?_
                  refine TZ_pure 23 (by kernel_rfl) rfl rfl rfl rfl rfl (op_fieldAddr fa91_2 rfl rfl) ?_
                  refine TZ_one 24 (by kernel_rfl) rfl ?_
                  refine TL_store_box sz26 rfl rfl rfl rfl rfl rfl rfl rfl rfl ?_
                  refine TL_nil ?_
                  refine TZ_done (by kernel_rfl) ?_
                  refine T_keepH [0, 1, 6, 8, 9, 10, 11, 13] [11, 15, 19, 315] rfl rfl rfl rfl (by rw [hF]; rfl) ?_
                  exact hj1 (s1.2.1 ++ [(w64 ((w64 (q40 * x115)) + (w64 (q37 * x124))))]) hm
            · refine ⟨_, rfl, ?_⟩
              refine TL_pure rfl rfl rfl rfl (op_load_one ag2 rfl rfl) ?_
              refine TL_nil ?_
              refine TZ_pure 10 (by kernel_rfl) rfl rfl rfl rfl rfl (op_mulW rfl rfl) ?_
              refine TZ_each [1, 15] (by kernel_rfl) rfl ?_
              refine ⟨?_, ?_⟩
              · refine ⟨_, rfl, ?_⟩
                refine TL_pure rfl rfl rfl rfl (op_load_one ag26 rfl rfl) ?_
                refine TL_nil ?_
                refine TZ_one 15 (by kernel_rfl) rfl ?_
                refine TL_pure rfl rfl rfl rfl (op_load_one ag26 rfl rfl) ?_
                refine TL_nil ?_
                refine TZ_pure 17 (by kernel_rfl) rfl rfl rfl rfl rfl (op_indexT el26 rfl rfl hx124 rfl) ?_
                refine TZ_one 18 (by kernel_rfl) rfl ?_
                refine TL_pure rfl rfl rfl rfl (op_load_one ag2 rfl rfl) ?_
                refine TL_nil ?_
                refine TZ_pure 19 (by kernel_rfl) rfl rfl rfl rfl rfl (op_mulW rfl rfl) ?_
                refine TZ_pure 20 (by kernel_rfl) rfl rfl rfl rfl rfl (op_addW rfl rfl) ?_
                refine TZ_one 21 (by kernel_rfl) rfl ?_
                refine TL_buildSlice 581 (es := List.map a_i64 [(w64 ((w64 (q40 * x115)) + (w64 (q37 * x124))))]) el26 z2 rfl rfl rfl rfl rfl rfl rfl rfl rfl ?_
                refine TL_nil ?_
                refine TZ_one 22 (by kernel_rfl) rfl ?_
                refine TL_appendT (f := a_i64) (a := s1.2.1) (b := [(w64 ((w64 (q40 * x115)) + (w64 (q37 * x124))))]) el26 z2 rfl rfl rfl rfl rfl rfl rfl (capI_spec hq129) rfl rfl rfl rfl rfl ?_
                refine TL_nil ?_
                refine TZ_pure 23 (by kernel_rfl) rfl rfl rfl rfl rfl (op_fieldAddr fa91_2 rfl rfl) ?_
                refine TZ_one 24 (by kernel_rfl) rfl ?_
                refine TL_store_box sz26 rfl rfl rfl rfl rfl rfl rfl rfl rfl ?_
                refine TL_nil ?_
                refine TZ_done (by kernel_rfl) ?_
                refine T_keepH [0, 1, 6, 8, 9, 10, 11, 13] [11, 15, 19, 315] rfl rfl rfl rfl (by rw [hF]; rfl) ?_
                exact hj1 (s1.2.1 ++ [(w64 ((w64 (q40 * x115)) + (w64 (q37 * x124))))]) hm
              · refine ⟨_, rfl, ?_⟩
                refine TL_pure rfl rfl rfl rfl (op_load_one ag26 rfl rfl) ?_
                refine TL_nil ?_
                refine TZ_pure 17 (by kernel_rfl) rfl rfl rfl rfl rfl (op_indexT el26 rfl rfl hx124 rfl) ?_
                refine TZ_each [1, 18] (by kernel_rfl) rfl ?_
                refine ⟨?_, ?_⟩
                · refine ⟨_, rfl, ?_⟩
                  refine TL_pure rfl rfl rfl rfl (op_load_one ag26 rfl rfl) ?_
                  refine TL_nil ?_
                  refine TZ_one 18 (by kernel_rfl) rfl ?_
                  refine TL_pure rfl rfl rfl rfl (op_load_one ag2 rfl rfl) ?_
                  refine TL_nil ?_
                  refine TZ_pure 19 (by kernel_rfl) rfl rfl rfl rfl rfl (op_mulW rfl rfl) ?_
                  refine TZ_pure 20 (by kernel_rfl) rfl rfl rfl rfl rfl (op_addW rfl rfl) ?_
                  refine TZ_one 21 (by kernel_rfl) rfl ?_
                  refine TL_buildSlice 582 (es := List.map a_i64 [(w64 ((w64 (q40 * x115)) + (w64 (q37 * x124))))]) el26 z2 rfl rfl rfl rfl rfl rfl rfl rfl rfl ?_
                  refine TL_nil ?_
                  refine TZ_one 22 (by kernel_rfl) rfl ?_
                  refine TL_appendT (f := a_i64) (a := s1.2.1) (b := [(w64 ((w64 (q40 * x115)) + (w64 (q37 * x124))))]) el26 z2 rfl rfl rfl rfl rfl rfl rfl (capI_spec hq129) rfl rfl rfl rfl rfl ?_
                  refine TL_nil ?_
                  refine TZ_pure 23 (by kernel_rfl) rfl rfl rfl rfl rfl (op_fieldAddr fa91_2 rfl rfl) ?_
                  refine TZ_one 24 (by kernel_rfl) rfl ?_
                  refine TL_store_box sz26 rfl rfl rfl rfl rfl rfl rfl rfl rfl ?_
                  refine TL_nil ?_
                  refine TZ_done (by kernel_rfl) ?_
                  refine T_keepH [0, 1, 6, 8, 9, 10, 11, 13] [11, 15, 19, 315] rfl rfl rfl rfl (by rw [hF]; rfl) ?_
                  exact hj1 (s1.2.1 ++ [(w64 ((w64 (q40 * x115)) + (w64 (q37 * x124))))]) hm
                · refine ⟨_, rfl, ?_⟩
                  refine TL_pure rfl rfl rfl rfl (op_load_one ag2 rfl rfl) ?_
                  refine TL_nil ?_
                  refine TZ_pure 19 (by kernel_rfl) rfl rfl rfl rfl rfl (op_mulW rfl rfl) ?_
                  refine TZ_pure 20 (by kernel_rfl) rfl rfl rfl rfl rfl (op_addW rfl rfl) ?_
                  refine TZ_each [1, 21] (by kernel_rfl) rfl ?_
                  refine ⟨?_, ?_⟩
                  · refine ⟨_, rfl, ?_⟩
                    refine TL_pure rfl rfl rfl rfl (op_load_one ag26 rfl rfl) ?_
                    refine TL_nil ?_
                    refine TZ_one 21 (by kernel_rfl) rfl ?_
                    refine TL_buildSlice 584 (es := List.map a_i64 [(w64 ((w64 (q40 * x115)) + (w64 (q37 * x124))))]) el26 z2 rfl rfl rfl rfl rfl rfl rfl rfl rfl ?_
                    refine TL_nil ?_
                    refine TZ_one 22 (by kernel_rfl) rfl ?_
                    refine TL_appendT (f := a_i64) (a := s1.2.1) (b := [(w64 ((w64 (q40 * x115)) + (w64 (q37 * x124))))]) el26 z2 rfl rfl rfl rfl rfl rfl rfl (capI_spec hq129) rfl rfl rfl rfl rfl ?_
                    refine TL_nil ?_
                    refine TZ_pure 23 (by kernel_rfl) rfl rfl rfl rfl rfl (op_fieldAddr fa91_2 rfl rfl) ?_
                    refine TZ_one 24 (by kernel_rfl) rfl ?_
                    refine TL_store_box sz26 rfl rfl rfl rfl rfl rfl rfl rfl rfl ?_
                    refine TL_nil ?_
                    refine TZ_done (by kernel_rfl) ?_
                    refine T_keepH [0, 1, 6, 8, 9, 10, 11, 13] [11, 15, 19, 315] rfl rfl rfl rfl (by rw [hF]; rfl) ?_
                    exact hj1 (s1.2.1 ++ [(w64 ((w64 (q40 * x115)) + (w64 (q37 * x124))))]) hm
                  · refine ⟨_, rfl, ?_⟩
                    refine TL_buildSlice 583 (es := List.map a_i64 [(w64 ((w64 (q40 * x115)) + (w64 (q37 * x124))))]) el26 z2 rfl rfl rfl rfl rfl rfl rfl rfl rfl ?_
                    refine TL_nil ?_
                    refine TZ_pure 1 (by kernel_rfl) rfl rfl rfl rfl rfl (op_load_one ag26 rfl rfl) ?_
                    refine TZ_one 22 (by kernel_rfl) rfl ?_
                    refine TL_appendT (f := a_i64) (a := s1.2.1) (b := [(w64 ((w64 (q40 * x115)) + (w64 (q37 * x124))))]) el26 z2 rfl rfl rfl rfl rfl rfl rfl (capI_spec hq129) rfl rfl rfl rfl rfl ?_
                    refine TL_nil ?_
                    refine TZ_pure 23 (by kernel_rfl) rfl rfl rfl rfl rfl (op_fieldAddr fa91_2 rfl rfl) ?_
                    refine TZ_one 24 (by kernel_rfl) rfl ?_
                    refine TL_store_box sz26 rfl rfl rfl rfl rfl rfl rfl rfl rfl ?_
                    refine TL_nil ?_
                    refine TZ_done (by kernel_rfl) ?_
                    refine T_keepH [0, 1, 6, 8, 9, 10, 11, 13] [11, 15, 19, 315] rfl rfl rfl rfl (by rw [hF]; rfl) ?_
                    exact hj1 (s1.2.1 ++ [(w64 ((w64 (q40 * x115)) + (w64 (q37 * x124))))]) hm
            · refine ⟨_, rfl, ?_⟩
              refine TL_pure rfl rfl rfl rfl (op_load_one ag26 rfl rfl) ?_
              refine TL_nil ?_
              refine TZ_pure 17 (by kernel_rfl) rfl rfl rfl rfl rfl (op_indexT el26 rfl rfl hx124 rfl) ?_
              refine TZ_each [1, 9, 18] (by kernel_rfl) rfl ?_
              refine ⟨?_, ?_, ?_⟩
              · refine ⟨_, rfl, ?_⟩
                refine TL_pure rfl rfl rfl rfl (op_load_one ag26 rfl rfl) ?_
                refine TL_nil ?_
                refine TZ_each [9, 18] (by kernel_rfl) rfl ?_
                refine ⟨?_, ?_⟩
                · refine ⟨_, rfl, ?_⟩
                  refine TL_pure rfl rfl rfl rfl (op_load_one ag2 rfl rfl) ?_
                  refine TL_nil ?_
                  refine TZ_pure 10 (by kernel_rfl) rfl rfl rfl rfl rfl (op_mulW rfl rfl) ?_
                  refine TZ_one 18 (by kernel_rfl) rfl ?_
                  refine TL_pure rfl rfl rfl rfl (op_load_one ag2 rfl rfl) ?_
                  refine TL_nil ?_
                  refine TZ_pure 19 (by kernel_rfl) rfl rfl rfl rfl rfl (op_mulW rfl rfl) ?_
                  refine TZ_pure 20 (by kernel_rfl) rfl rfl rfl rfl rfl (op_addW rfl rfl) ?_
                  refine TZ_one 21 (by kernel_rfl) rfl ?_
                  refine TL_buildSlice 585 (es := List.map a_i64 [(w64 ((w64 (q40 * x115)) + (w64 (q37 * x124))))]) el26 z2 rfl rfl rfl rfl rfl rfl rfl rfl rfl ?_
                  refine TL_nil ?_
                  refine TZ_one 22 (by kernel_rfl) rfl ?_
                  refine TL_appendT (f := a_i64) (a := s1.2.1) (b := [(w64 ((w64 (q40 * x115)) + (w64 (q37 * x124))))]) el26 z2 rfl rfl rfl rfl rfl rfl rfl (capI_spec hq129) rfl rfl rfl rfl rfl ?_
                  refine TL_nil ?_
                  refine TZ_pure 23 (by kernel_rfl) rfl rfl rfl rfl rfl (op_fieldAddr fa91_2 rfl rfl) ?_
                  refine TZ_one 24 (by kernel_rfl) rfl ?_
                  refine TL_store_box sz26 rfl rfl rfl rfl rfl rfl rfl rfl rfl ?_
                  refine TL_nil ?_
                  refine TZ_done (by kernel_rfl) ?_
                  refine T_keepH [0, 1, 6, 8, 9, 10, 11, 13] [11, 15, 19, 315] rfl rfl rfl rfl (by rw [hF]; rfl) ?_
                  exact hj1 (s1.2.1 ++ [(w64 ((w64 (q40 * x115)) + (w64 (q37 * x124))))]) hm
                · refine ⟨_, rfl, ?_⟩
                  refine TL_pure rfl rfl rfl rfl (op_load_one ag2 rfl rfl) ?_
                  refine TL_nil ?_
                  refine TZ_pure 19 (by kernel_rfl) rfl rfl rfl rfl rfl (op_mulW rfl rfl) ?_
                  refine TZ_one 9 (by kernel_rfl) rfl ?_
                  refine TL_pure rfl rfl rfl rfl (op_load_one ag2 rfl rfl) ?_
                  refine TL_nil ?_
                  refine TZ_pure 10 (by kernel_rfl) rfl rfl rfl rfl rfl (op_mulW rfl rfl) ?_
                  refine TZ_pure 20 (by kernel_rfl) rfl rfl rfl rfl rfl (op_addW rfl rfl) ?_
                  refine TZ_one 21 (by kernel_rfl) rfl ?_
                  refine TL_buildSlice 586 (es := List.map a_i64 [(w64 ((w64 (q40 * x115)) + (w64 (q37 * x124))))]) el26 z2 rfl rfl rfl rfl rfl rfl rfl rfl rfl ?_
                  refine TL_nil ?_
                  refine TZ_one 22 (by kernel_rfl) rfl ?_
                  refine TL_appendT (f := a_i64) (a := s1.2.1) (b := [(w64 ((w64 (q40 * x115)) + (w64 (q37 * x124))))]) el26 z2 rfl rfl rfl rfl rfl rfl rfl (capI_spec hq129) rfl rfl rfl rfl rfl ?_
                  refine TL_nil ?_
                  refine TZ_pure 23 (by kernel_rfl) rfl rfl rfl rfl rfl (op_fieldAddr fa91_2 rfl rfl) ?_
                  refine TZ_one 24 (by kernel_rfl) rfl ?_
                  refine TL_store_box sz26 rfl rfl rfl rfl rfl rfl rfl rfl rfl ?_
                  refine TL_nil ?_
                  refine TZ_done (by kernel_rfl) ?_
                  refine T_keepH [0, 1, 6, 8, 9, 10, 11, 13] [11, 15, 19, 315] rfl rfl rfl rfl (by rw [hF]; rfl) ?_
                  exact hj1 (s1.2.1 ++ [(w64 ((w64 (q40 * x115)) + (w64 (q37 * x124))))]) hm
              · refine ⟨_, rfl, ?_⟩
                refine TL_pure rfl rfl rfl rfl (op_load_one ag2 rfl rfl) ?_
                refine TL_nil ?_
                refine TZ_pure 10 (by kernel_rfl) rfl rfl rfl rfl rfl (op_mulW rfl rfl) ?_
                refine TZ_each [1, 18] (by kernel_rfl) rfl ?_
                refine ⟨?_, ?_⟩
                · refine ⟨_, rfl, ?_⟩
                  refine TL_pure rfl rfl rfl rfl (op_load_one ag26 rfl rfl) ?_
                  refine TL_nil ?_
                  refine TZ_one 18 (by kernel_rfl) rfl ?_
                  refine TL_pure rfl rfl rfl rfl (op_load_one ag2 rfl rfl) ?_
                  refine TL_nil ?_
                  refine TZ_pure 19 (by kernel_rfl) rfl rfl rfl rfl rfl (op_mulW rfl rfl) ?_
                  refine TZ_pure 20 (by kernel_rfl) rfl rfl rfl rfl rfl (op_addW rfl rfl) ?_
                  refine TZ_one 21 (by kernel_rfl) rfl ?_
                  refine TL_buildSlice 587 (es := List.map a_i64 [(w64 ((w64 (q40 * x115)) + (w64 (q37 * x124))))]) el26 z2 rfl rfl rfl rfl rfl rfl rfl rfl rfl ?_
                  refine TL_nil ?_
                  refine TZ_one 22 (by kernel_rfl) rfl ?_
                  refine TL_appendT (f := a_i64) (a := s1.2.1) (b := [(w64 ((w64 (q40 * x115)) + (w64 (q37 * x124))))]) el26 z2 rfl rfl rfl rfl rfl rfl rfl (capI_spec hq129) rfl rfl rfl rfl rfl ?_
                  refine TL_nil ?_
                  refine TZ_pure 23 (by kernel_rfl) rfl rfl rfl rfl rfl (op_fieldAddr fa91_2 rfl rfl) ?_
                  refine TZ_one 24 (by kernel_rfl) rfl ?_
                  refine TL_store_box sz26 rfl rfl rfl rfl rfl rfl rfl rfl rfl ?_
                  refine TL_nil ?_
                  refine TZ_done (by kernel_rfl) ?_
                  refine T_keepH [0, 1, 6, 8, 9, 10, 11, 13] [11, 15, 19, 315] rfl rfl rfl rfl (by rw [hF]; rfl) ?_
                  exact hj1 (s1.2.1 ++ [(w64 ((w64 (q40 * x115)) + (w64 (q37 * x124))))]) hm
                · refine ⟨_, rfl, ?_⟩
                  refine TL_pure rfl rfl rfl rfl (op_load_one ag2 rfl rfl) ?_
                  refine TL_nil ?_
                  refine TZ_pure 19 (by kernel_rfl) rfl rfl rfl rfl rfl (op_mulW rfl rfl) ?_
                  refine TZ_pure 20 (by kernel_rfl) rfl rfl rfl rfl rfl (op_addW rfl rfl) ?_
                  refine TZ_each [1, 21] (by kernel_rfl) rfl ?_
                  refine ⟨?_, ?_⟩
                  · refine ⟨_, rfl, ?_⟩
                    refine TL_pure rfl rfl rfl rfl (op_load_one ag26 rfl rfl) ?_
                    refine TL_nil ?_
                    refine TZ_one 21 (by kernel_rfl) rfl ?_
                    refine TL_buildSlice 589 (es := List.map a_i64 [(w64 ((w64 (q40 * x115)) + (w64 (q37 * x124))))]) el26 z2 rfl rfl rfl rfl rfl rfl rfl rfl rfl ?_
                    refine TL_nil ?_
                    refine TZ_one 22 (by kernel_rfl) rfl ?_
                    refine TL_appendT (f := a_i64) (a := s1.2.1) (b := [(w64 ((w64 (q40 * x115)) + (w64 (q37 * x124))))]) el26 z2 rfl rfl rfl rfl rfl rfl rfl (capI_spec hq129) rfl rfl rfl rfl rfl ?_
                    refine TL_nil ?_
                    refine TZ_pure 23 (by kernel_rfl) rfl rfl rfl rfl rfl (op_fieldAddr fa91_2 rfl rfl) ?_
                    refine TZ_one 24 (by kernel_rfl) rfl ?_
                    refine TL_store_box sz26 rfl rfl rfl rfl rfl rfl rfl rfl rfl ?_
                    refine TL_nil ?_
                    refine TZ_done (by kernel_rfl) ?_
                    refine T_keepH [0, 1, 6, 8, 9, 10, 11, 13] [11, 15, 19, 315] rfl rfl rfl rfl (by rw [hF]; rfl) ?_
                    exact hj1 (s1.2.1 ++ [(w64 ((w64 (q40 * x115)) + (w64 (q37 * x124))))]) hm
                  · refine ⟨_, rfl, ?_⟩
                    refine TL_buildSlice 588 (es := List.map a_i64 [(w64 ((w64 (q40 * x115)) + (w64 (q37 * x124))))]) el26 z2 rfl rfl rfl rfl rfl rfl rfl rfl rfl ?_
                    refine TL_nil ?_
                    refine TZ_pure 1 (by kernel_rfl) rfl rfl rfl rfl rfl (op_load_one ag26 rfl rfl) ?_
                    refine TZ_one 22 (by kernel_rfl) rfl ?_
                    refine TL_appendT (f := a_i64) (a := s1.2.1) (b := [(w64 ((w64 (q40 * x115)) + (w64 (q37 * x124))))]) el26 z2 rfl rfl rfl rfl rfl rfl rfl (capI_spec hq129) rfl rfl rfl rfl rfl ?_
                    refine TL_nil ?_
                    refine TZ_pure 23 (by kernel_rfl) rfl rfl rfl rfl rfl (op_fieldAddr fa91_2 rfl rfl) ?_
                    refine TZ_one 24 (by kernel_rfl) rfl ?_
                    refine TL_store_box sz26 rfl rfl rfl rfl rfl rfl rfl rfl rfl ?_
                    refine TL_nil ?_
                    refine TZ_done (by kernel_rfl) ?_
                    refine T_keepH [0, 1, 6, 8, 9, 10, 11, 13] [11, 15, 19, 315] rfl rfl rfl rfl (by rw [hF]; rfl) ?_
                    exact hj1 (s1.2.1 ++ [(w64 ((w64 (q40 * x115)) + (w64 (q37 * x124))))]) hm
              · refine ⟨_, rfl, ?_⟩
                refine TL_pure rfl rfl rfl rfl (op_load_one ag2 rfl rfl) ?_
                refine TL_nil ?_
                refine TZ_pure 19 (by kernel_rfl) rfl rfl rfl rfl rfl (op_mulW rfl rfl) ?_
                refine TZ_each [1, 9] (by kernel_rfl) rfl ?_
                refine ⟨?_, ?_⟩
                · refine ⟨_, rfl, ?_⟩
                  refine TL_pure rfl rfl rfl rfl (op_load_one ag26 rfl rfl) ?_
                  refine TL_nil ?_
                  refine TZ_one 9 (by kernel_rfl) rfl ?_
                  refine TL_pure rfl rfl rfl rfl (op_load_one ag2 rfl rfl) ?_
                  refine TL_nil ?_
                  refine TZ_pure 10 (by kernel_rfl) rfl rfl rfl rfl rfl (op_mulW rfl rfl) ?_
                  refine TZ_pure 20 (by kernel_rfl) rfl rfl rfl rfl rfl (op_addW rfl rfl) ?_
                  refine TZ_one 21 (by kernel_rfl) rfl ?_
                  refine TL_buildSlice 590 (es := List.map a_i64 [(w64 ((w64 (q40 * x115)) + (w64 (q37 * x124))))]) el26 z2 rfl rfl rfl rfl rfl rfl rfl rfl rfl ?_
                  refine TL_nil ?_
                  refine TZ_one 22 (by kernel_rfl) rfl ?_
                  refine TL_appendT (f := a_i64) (a := s1.2.1) (b := [(w64 ((w64 (q40 * x115)) + (w64 (q37 * x124))))]) el26 z2 rfl rfl rfl rfl rfl rfl rfl (capI_spec hq129) rfl rfl rfl rfl rfl ?_
                  refine TL_nil ?_
                  refine TZ_pure 23 (by kernel_rfl) rfl rfl rfl rfl rfl (op_fieldAddr fa91_2 rfl rfl) ?_
                  refine TZ_one 24 (by kernel_rfl) rfl ?_
                  refine TL_store_box sz26 rfl rfl rfl rfl rfl rfl rfl rfl rfl ?_
                  refine TL_nil ?_
                  refine TZ_done (by kernel_rfl) ?_
                  refine T_keepH [0, 1, 6, 8, 9, 10, 11, 13] [11, 15, 19, 315] rfl rfl rfl rfl (by rw [hF]; rfl) ?_
                  exact hj1 (s1.2.1 ++ [(w64 ((w64 (q40 * x115)) + (w64 (q37 * x124))))]) hm
                · refine ⟨_, rfl, ?_⟩
                  refine TL_pure rfl rfl rfl rfl (op_load_one ag2 rfl rfl) ?_
                  refine TL_nil ?_
                  refine TZ_pure 10 (by kernel_rfl) rfl rfl rfl rfl rfl (op_mulW rfl rfl) ?_
                  refine TZ_pure 20 (by kernel_rfl) rfl rfl rfl rfl rfl (op_addW rfl rfl) ?_
                  refine TZ_each [1, 21] (by kernel_rfl) rfl ?_
                  refine ⟨?_, ?_⟩
                  · refine ⟨_, rfl, ?_⟩
                    refine TL_pure rfl rfl rfl rfl (op_load_one ag26 rfl rfl) ?_
                    refine TL_nil ?_
                    refine TZ_one 21 (by kernel_rfl) rfl ?_
                    refine TL_buildSlice 592 (es := List.map a_i64 [(w64 ((w64 (q40 * x115)) + (w64 (q37 * x124))))]) el26 z2 rfl rfl rfl rfl rfl rfl rfl rfl rfl ?_
                    refine TL_nil ?_
                    refine TZ_one 22 (by kernel_rfl) rfl ?_
                    refine TL_appendT (f := a_i64) (a := s1.2.1) (b := [(w64 ((w64 (q40 * x115)) + (w64 (q37 * x124))))]) el26 z2 rfl rfl rfl rfl rfl rfl rfl (capI_spec hq129) rfl rfl rfl rfl rfl ?_
                    refine TL_nil ?_
                    refine TZ_pure 23 (by kernel_rfl) rfl rfl rfl rfl rfl (op_fieldAddr fa91_2 rfl rfl) ?_
                    refine TZ_one 24 (by kernel_rfl) rfl ?_
                    refine TL_store_box sz26 rfl rfl rfl rfl rfl rfl rfl rfl rfl ?_
                    refine TL_nil ?_
                    refine TZ_done (by kernel_rfl) ?_
                    refine T_keepH [0, 1, 6, 8, 9, 10, 11, 13] [11, 15, 19, 315] rfl rfl rfl rfl (by rw [hF]; rfl) ?_
                    exact hj1 (s1.2.1 ++ [(w64 ((w64 (q40 * x115)) + (w64 (q37 * x124))))]) hm
                  · refine ⟨_, rfl, ?_⟩
                    refine TL_buildSlice 591 (es := List.map a_i64 [(w64 ((w64 (q40 * x115)) + (w64 (q37 * x124))))]) el26 z2 rfl rfl rfl rfl rfl rfl rfl rfl rfl ?_
                    refine TL_nil ?_
                    refine TZ_pure 1 (by kernel_rfl) rfl rfl rfl rfl rfl (op_load_one ag26 rfl rfl) ?_
                    refine TZ_one 22 (by kernel_rfl) rfl ?_
                    refine TL_appendT (f := a_i64) (a := s1.2.1) (b := [(w64 ((w64 (q40 * x115)) + (w64 (q37 * x124))))]) el26 z2 rfl rfl rfl rfl rfl rfl rfl (capI_spec hq129) rfl rfl rfl rfl rfl ?_
                    refine TL_nil ?_
                    refine TZ_pure 23 (by kernel_rfl) rfl rfl rfl rfl rfl (op_fieldAddr fa91_2 rfl rfl) ?_
                    refine TZ_one 24 (by kernel_rfl) rfl ?_
                    refine TL_store_box sz26 rfl rfl rfl rfl rfl rfl rfl rfl rfl ?_
                    refine TL_nil ?_
                    refine TZ_done (by kernel_rfl) ?_
                    refine T_keepH [0, 1, 6, 8, 9, 10, 11, 13] [11, 15, 19, 315] rfl rfl rfl rfl (by rw [hF]; rfl) ?_
                    exact hj1 (s1.2.1 ++ [(w64 ((w64 (q40 * x115)) + (w64 (q37 * x124))))]) hm
          · refine ⟨_, rfl, ?_⟩
            refine TL_pure rfl rfl rfl rfl (op_load_one ag26 rfl rfl) ?_
            refine TL_nil ?_
            refine TZ_pure 17 (by kernel_rfl) rfl rfl rfl rfl rfl (op_indexT el26 rfl rfl hx124 rfl) ?_
            refine TZ_each [1, 6, 18] (by kernel_rfl) rfl ?_
            refine ⟨?_, ?_, ?_⟩
            · refine ⟨_, rfl, ?_⟩
              refine TL_pure rfl rfl rfl rfl (op_load_one ag26 rfl rfl) ?_
              refine TL_nil ?_
              refine TZ_each [6, 18] (by kernel_rfl) rfl ?_
              refine ⟨?_, ?_⟩
              · refine ⟨_, rfl, ?_⟩
                refine TL_pure rfl rfl rfl rfl (op_load_one ag26 rfl rfl) ?_
                refine TL_nil ?_
                refine TZ_pure 8 (by kernel_rfl) rfl rfl rfl rfl rfl (op_indexT el26 rfl rfl hx115 rfl) ?_
                refine TZ_each [9, 18] (by kernel_rfl) rfl ?_
                refine ⟨?_, ?_⟩
                · refine ⟨_, rfl, ?_⟩
                  refine TL_pure rfl rfl rfl rfl (op_load_one ag2 rfl rfl) ?_
                  refine TL_nil ?_
                  refine TZ_pure 10 (by kernel_rfl) rfl rfl rfl rfl rfl (op_mulW rfl rfl) ?_
                  refine TZ_one 18 (by kernel_rfl) rfl ?_
                  refine TL_pure rfl rfl rfl rfl (op_load_one ag2 rfl rfl) ?_
                  refine TL_nil ?_
                  refine TZ_pure 19 (by kernel_rfl) rfl rfl rfl rfl rfl (op_mulW rfl rfl) ?_
                  refine TZ_pure 20 (by kernel_rfl) rfl rfl rfl rfl rfl (op_addW rfl rfl) ?_
                  refine TZ_one 21 (by kernel_rfl) rfl ?_
                  refine TL_buildSlice 593 (es := List.map a_i64 [(w64 ((w64 (q40 * x115)) + (w64 (q37 * x124))))]) el26 z2 rfl rfl rfl rfl rfl rfl rfl rfl rfl ?_
                  refine TL_nil ?_
                  refine TZ_one 22 (by kernel_rfl) rfl ?_
                  refine TL_appendT (f := a_i64) (a := s1.2.1) (b := [(w64 ((w64 (q40 * x115)) + (w64 (q37 * x124))))]) el26 z2 rfl rfl rfl rfl rfl rfl rfl (capI_spec hq129) rfl rfl rfl rfl rfl ?_
                  refine TL_nil ?_
                  refine TZ_pure 23 (by kernel_rfl) rfl rfl rfl rfl rfl (op_fieldAddr fa91_2 rfl rfl) ?_
                  refine TZ_one 24 (by kernel_rfl) rfl ?_
                  refine TL_store_box sz26 rfl rfl rfl rfl rfl rfl rfl rfl rfl ?_
                  refine TL_nil ?_
                  refine TZ_done (by kernel_rfl) ?_
                  refine T_keepH [0, 1, 6, 8, 9, 10, 11, 13] [11, 15, 19, 315] rfl rfl rfl rfl (by rw [hF]; rfl) ?_
                  exact hj1 (s1.2.1 ++ [(w64 ((w64 (q40 * x115)) + (w64 (q37 * x124))))]) hm
                · refine ⟨_, rfl, ?_⟩
                  refine TL_pure rfl rfl rfl rfl (op_load_one ag2 rfl rfl) ?_
                  refine TL_nil ?_
                  refine TZ_pure 19 (by kernel_rfl) rfl rfl rfl rfl rfl (op_mulW rfl rfl) ?_
                  refine TZ_one 9 (by kernel_rfl) rfl ?_
                  refine TL_pure rfl rfl rfl rfl (op_load_one ag2 rfl rfl) ?_
                  refine TL_nil ?_
                  refine TZ_pure 10 (by kernel_rfl) rfl rfl rfl rfl rfl (op_mulW rfl rfl) ?_
                  refine TZ_pure 20 (by kernel_rfl) rfl rfl rfl rfl rfl (op_addW rfl rfl) ?_
                  refine TZ_one 21 (by kernel_rfl) rfl ?_
                  refine TL_buildSlice 594 (es := List.map a_i64 [(w64 ((w64 (q40 * x115)) + (w64 (q37 * x124))))]) el26 z2 rfl rfl rfl rfl rfl rfl rfl rfl rfl ?_
                  refine TL_nil ?_
                  refine TZ_one 22 (by kernel_rfl) rfl ?_
                  refine TL_appendT (f := a_i64) (a := s1.2.1) (b := [(w64 ((w64 (q40 * x115)) + (w64 (q37 * x124))))]) el26 z2 rfl rfl rfl rfl rfl rfl rfl (capI_spec hq129) rfl rfl rfl rfl rfl ?_
                  refine TL_nil ?_
                  refine TZ_pure 23 (by kernel_rfl) rfl rfl rfl rfl rfl (op_fieldAddr fa91_2 rfl rfl) ?_
                  refine TZ_one 24 (by kernel_rfl) rfl ?_
                  refine TL_store_box sz26 rfl rfl rfl rfl rfl rfl rfl rfl rfl ?_
                  refine TL_nil ?_
                  refine TZ_done (by kernel_rfl) ?_
                  refine T_keepH [0, 1, 6, 8, 9, 10, 11, 13] [11, 15, 19, 315] rfl rfl rfl rfl (by rw [hF]; rfl) ?_
                  exact hj1 (s1.2.1 ++ [(w64 ((w64 (q40 * x115)) + (w64 (q37 * x124))))]) hm
              · refine ⟨_, rfl, ?_⟩
                refine TL_pure rfl rfl rfl rfl (op_load_one ag2 rfl rfl) ?_
                refine TL_nil ?_
                refine TZ_pure 19 (by kernel_rfl) rfl rfl rfl rfl rfl (op_mulW rfl rfl) ?_
                refine TZ_one 6 (by kernel_rfl) rfl ?_
                refine TL_pure rfl rfl rfl rfl (op_load_one ag26 rfl rfl) ?_
                refine TL_nil ?_
                refine TZ_pure 8 (by kernel_rfl) rfl rfl rfl rfl rfl (op_indexT el26 rfl rfl hx115 rfl) ?_
                refine TZ_one 9 (by kernel_rfl) rfl ?_
                refine TL_pure rfl rfl rfl rfl (op_load_one ag2 rfl rfl) ?_
                refine TL_nil ?_
                refine TZ_pure 10 (by kernel_rfl) rfl rfl rfl rfl rfl (op_mulW rfl rfl) ?_
                refine TZ_pure 20 (by kernel_rfl) rfl rfl rfl rfl rfl (op_addW rfl rfl) ?_
                refine TZ_one 21 (by kernel_rfl) rfl ?_
                refine TL_buildSlice 595 (es := List.map a_i64 [(w64 ((w64 (q40 * x115)) + (w64 (q37 * x124))))]) el26 z2 rfl rfl rfl rfl rfl rfl rfl rfl rfl ?_
                refine TL_nil ?_
                refine TZ_one 22 (by kernel_rfl) rfl ?_
                refine TL_appendT (f := a_i64) (a := s1.2.1) (b := [(w64 ((w64 (q40 * x115)) + (w64 (q37 * x124))))]) el26 z2 rfl rfl rfl rfl rfl rfl rfl (capI_spec hq129) rfl rfl rfl rfl rfl ?_
                refine TL_nil ?_
                refine TZ_pure 23 (by kernel_rfl) rfl rfl rfl rfl rfl (op_fieldAddr fa91_2 rfl rfl) ?_
                refine TZ_one 24 (by kernel_rfl) rfl ?_
                refine TL_store_box sz26 rfl rfl rfl rfl rfl rfl rfl rfl rfl ?_
                refine TL_nil ?_
                refine TZ_done (by kernel_rfl) ?_
                refine T_keepH [0, 1, 6, 8, 9, 10, 11, 13] [11, 15, 19, 315] rfl rfl rfl rfl (by rw [hF]; rfl) ?_
                exact hj1 (s1.2.1 ++ [(w64 ((w64 (q40 * x115)) + (w64 (q37 * x124))))]) hm
            · refine ⟨_, rfl, ?_⟩
              refine TL_pure rfl rfl rfl rfl (op_load_one ag26 rfl rfl) ?_
              refine TL_nil ?_
              refine TZ_pure 8 (by kernel_rfl) rfl rfl rfl rfl rfl (op_indexT el26 rfl rfl hx115 rfl) ?_
              refine TZ_each [1, 9, 18] (by kernel_rfl) rfl ?_
              refine ⟨?_, ?_, ?_⟩
              · refine ⟨_, rfl, ?_⟩
                refine TL_pure rfl rfl rfl rfl (op_load_one ag26 rfl rfl) ?_
                refine TL_nil ?_
                refine TZ_each [9, 18] (by kernel_rfl) rfl ?_
                refine ⟨?_, ?_⟩
                · refine ⟨_, rfl, ?_⟩
                  refine TL_pure rfl rfl rfl rfl (op_load_one ag2 rfl rfl) ?_
                  refine TL_nil ?_
                  refine TZ_pure 10 (by kernel_rfl) rfl rfl rfl rfl rfl (op_mulW rfl rfl) ?_
                  refine TZ_one 18 (by kernel_rfl) rfl ?_
                  refine TL_pure rfl rfl rfl rfl (op_load_one ag2 rfl rfl) ?_
                  refine TL_nil ?_
                  refine TZ_pure 19 (by kernel_rfl) rfl rfl rfl rfl rfl (op_mulW rfl rfl) ?_
                  refine TZ_pure 20 (by kernel_rfl) rfl rfl rfl rfl rfl (op_addW rfl rfl) ?_
                  refine TZ_one 21 (by kernel_rfl) rfl ?_
                  refine TL_buildSlice 596 (es := List.map a_i64 [(w64 ((w64 (q40 * x115)) + (w64 (q37 * x124))))]) el26 z2 rfl rfl rfl rfl rfl rfl rfl rfl rfl ?_
                  refine TL_nil ?_
                  refine TZ_one 22 (by kernel_rfl) rfl ?_
                  refine TL_appendT (f := a_i64) (a := s1.2.1) (b := [(w64 ((w64 (q40 * x115)) + (w64 (q37 * x124))))]) el26 z2 rfl rfl rfl rfl rfl rfl rfl (capI_spec hq129) rfl rfl rfl rfl rfl ?_
                  refine TL_nil ?_
                  refine TZ_pure 23 (by kernel_rfl) rfl rfl rfl rfl rfl (op_fieldAddr fa91_2 rfl rfl) ?_
                  refine TZ_one 24 (by kernel_rfl) rfl ?_
                  refine TL_store_box sz26 rfl rfl rfl rfl rfl rfl rfl rfl rfl ?_
                  refine TL_nil ?_
                  refine TZ_done (by kernel_rfl) ?_
                  refine T_keepH [0, 1, 6, 8, 9, 10, 11, 13] [11, 15, 19, 315] rfl rfl rfl rfl (by rw [hF]; rfl) ?_
                  exact hj1 (s1.2.1 ++ [(w64 ((w64 (q40 * x115)) + (w64 (q37 * x124))))]) hm
                · refine ⟨_, rfl, ?_⟩
                  refine TL_pure rfl rfl rfl rfl (op_load_one ag2 rfl rfl) ?_
                  refine TL_nil ?_
                  refine TZ_pure 19 (by kernel_rfl) rfl rfl rfl rfl rfl (op_mulW rfl rfl) ?_
                  refine TZ_one 9 (by kernel_rfl) rfl ?_
                  refine TL_pure rfl rfl rfl rfl (op_load_one ag2 rfl rfl) ?_
                  refine TL_nil ?_
                  refine TZ_pure 10 (by kernel_rfl) rfl rfl rfl rfl rfl (op_mulW rfl rfl) ?_
                  refine TZ_pure 20 (by kernel_rfl) rfl rfl rfl rfl rfl (op_addW rfl rfl) ?_
                  refine TZ_one 21 (by kernel_rfl) rfl ?_
                  refine TL_buildSlice 597 (es := List.map a_i64 [(w64 ((w64 (q40 * x115)) + (w64 (q37 * x124))))]) el26 z2 rfl rfl rfl rfl rfl rfl rfl rfl rfl ?_
                  refine TL_nil ?_
                  refine TZ_one 22 (by kernel_rfl) rfl ?_
                  refine TL_appendT (f := a_i64) (a := s1.2.1) (b := [(w64 ((w64 (q40 * x115)) + (w64 (q37 * x124))))]) el26 z2 rfl rfl rfl rfl rfl rfl rfl (capI_spec hq129) rfl rfl rfl rfl rfl ?_
                  refine TL_nil ?_
                  refine TZ_pure 23 (by kernel_rfl) rfl rfl rfl rfl rfl (op_fieldAddr fa91_2 rfl rfl) ?_
                  refine TZ_one 24 (by kernel_rfl) rfl ?_
                  refine TL_store_box sz26 rfl rfl rfl rfl rfl rfl rfl rfl rfl ?_
                  refine TL_nil ?_
                  refine TZ_done (by kernel_rfl) ?_
                  refine T_keepH [0, 1, 6, 8, 9, 10, 11, 13] [11, 15, 19, 315] rfl rfl rfl rfl (by rw [hF]; rfl) ?_
                  exact hj1 (s1.2.1 ++ [(w64 ((w64 (q40 * x115)) + (w64 (q37 * x124))))]) hm
              · refine ⟨_, rfl, ?_⟩
                refine TL_pure rfl rfl rfl rfl (op_load_one ag2 rfl rfl) ?_
                refine TL_nil ?_
                refine TZ_pure 10 (by kernel_rfl) rfl rfl rfl rfl rfl (op_mulW rfl rfl) ?_
                refine TZ_each [1, 18] (by kernel_rfl) rfl ?_
                refine ⟨?_, ?_⟩
                · refine ⟨_, rfl, ?_⟩
                  refine TL_pure rfl rfl rfl rfl (op_load_one ag26 rfl rfl) ?_
                  refine TL_nil ?_
                  refine TZ_one 18 (by kernel_rfl) rfl ?_
                  refine TL_pure rfl rfl rfl rfl (op_load_one ag2 rfl rfl) ?_
                  refine TL_nil ?_
                  refine TZ_pure 19 (by kernel_rfl) rfl rfl rfl rfl rfl (op_mulW rfl rfl) ?_
                  refine TZ_pure 20 (by kernel_rfl) rfl rfl rfl rfl rfl (op_addW rfl rfl) ?_
                  refine TZ_one 21 (by kernel_rfl) rfl ?_
                  refine TL_buildSlice 598 (es := List.map a_i64 [(w64 ((w64 (q40 * x115)) + (w64 (q37 * x124))))]) el26 z2 rfl rfl rfl rfl rfl rfl rfl rfl rfl ?_
                  refine TL_nil ?_
                  refine TZ_one 22 (by kernel_rfl) rfl ?_
                  refine TL_appendT (f := a_i64) (a := s1.2.1) (b := [(w64 ((w64 (q40 * x115)) + (w64 (q37 * x124))))]) el26 z2 rfl rfl rfl rfl rfl rfl rfl (capI_spec hq129) rfl rfl rfl rfl rfl ?_
                  refine TL_nil ?_
                  refine TZ_pure 23 (by kernel_rfl) rfl rfl rfl rfl rfl (op_fieldAddr fa91_2 rfl rfl) ?_
                  refine TZ_one 24 (by kernel_rfl) rfl ?_
                  refine TL_store_box sz26 rfl rfl rfl rfl rfl rfl rfl rfl rfl ?_
                  refine TL_nil ?_
                  refine TZ_done (by kernel_rfl) ?_
                  refine T_keepH [0, 1, 6, 8, 9, 10, 11, 13] [11, 15, 19, 315] rfl rfl rfl rfl (by rw [hF]; rfl) ?_
                  exact hj1 (s1.2.1 ++ [(w64 ((w64 (q40 * x115)) + (w64 (q37 * x124))))]) hm
                · refine ⟨_, rfl, ?_⟩
                  refine TL_pure rfl rfl rfl rfl (op_load_one ag2 rfl rfl) ?_
                  refine TL_nil ?_
                  refine TZ_pure 19 (by kernel_rfl) rfl rfl rfl rfl rfl (op_mulW rfl rfl) ?_
                  refine TZ_pure 20 (by kernel_rfl) rfl rfl rfl rfl rfl (op_addW rfl rfl) ?_
                  refine TZ_each [1, 21] (by kernel_rfl) rfl ?_
                  refine ⟨?_, ?_⟩
                  · refine ⟨_, rfl, ?_⟩
                    refine TL_pure rfl rfl rfl rfl (op_load_one ag26 rfl rfl) ?_
                    refine TL_nil ?_
                    refine TZ_one 21 (by kernel_rfl) rfl ?_
                    refine TL_buildSlice 600 (es := List.map a_i64 [(w64 ((w64 (q40 * x115)) + (w64 (q37 * x124))))]) el26 z2 rfl rfl rfl rfl rfl rfl rfl rfl rfl ?_
                    refine TL_nil ?_
                    refine TZ_one 22 (by kernel_rfl) rfl ?_
                    refine TL_appendT (f := a_i64) (a := s1.2.1) (b := [(w64 ((w64 (q40 * x115)) + (w64 (q37 * x124))))]) el26 z2 rfl rfl rfl rfl rfl rfl rfl (capI_spec hq129) rfl rfl rfl rfl rfl ?_
                    refine TL_nil ?_
                    refine TZ_pure 23 (by kernel_rfl) rfl rfl rfl rfl rfl (op_fieldAddr fa91_2 rfl rfl) ?_
                    refine TZ_one 24 (by kernel_rfl) rfl ?_
                    refine TL_store_box sz26 rfl rfl rfl rfl rfl rfl rfl rfl rfl ?_
                    refine TL_nil ?_
                    refine TZ_done (by kernel_rfl) ?_
                    refine T_keepH [0, 1, 6, 8, 9, 10, 11, 13] [11, 15, 19, 315] rfl rfl rfl rfl (by rw [hF]; rfl) ?_
                    exact hj1 (s1.2.1 ++ [(w64 ((w64 (q40 * x115)) + (w64 (q37 * x124))))]) hm
                  · refine ⟨_, rfl, ?_⟩
                    refine TL_buildSlice 599 (es := List.map a_i64 [(w64 ((w64 (q40 * x115)) + (w64 (q37 * x124))))]) el26 z2 rfl rfl rfl rfl rfl rfl rfl rfl rfl ?_
                    refine TL_nil ?_
                    refine TZ_pure 1 (by kernel_rfl) rfl rfl rfl rfl rfl (op_load_one ag26 rfl rfl) ?_
                    refine TZ_one 22 (by kernel_rfl) rfl ?_
                    refine TL_appendT (f := a_i64) (a := s1.2.1) (b := [(w64 ((w64 (q40 * x115)) + (w64 (q37 * x124))))]) el26 z2 rfl rfl rfl rfl rfl rfl rfl (capI_spec hq129) rfl rfl rfl rfl rfl ?_
                    refine TL_nil ?_
                    refine TZ_pure 23 (by kernel_rfl) rfl rfl rfl rfl rfl (op_fieldAddr fa91_2 rfl rfl) ?_
                    refine TZ_one 24 (by kernel_rfl) rfl ?_
                    refine TL_store_box sz26 rfl rfl rfl rfl rfl rfl rfl rfl rfl ?_
                    refine TL_nil ?_
                    refine TZ_done (by kernel_rfl) ?_
                    refine T_keepH [0, 1, 6, 8, 9, 10, 11, 13] [11, 15, 19, 315] rfl rfl rfl rfl (by rw [hF]; rfl) ?_
                    exact hj1 (s1.2.1 ++ [(w64 ((w64 (q40 * x115)) + (w64 (q37 * x124))))]) hm
              · refine ⟨_, rfl, ?_⟩
                refine TL_pure rfl rfl rfl rfl (op_load_one ag2 rfl rfl) ?_
                refine TL_nil ?_
                refine TZ_pure 19 (by kernel_rfl) rfl rfl rfl rfl rfl (op_mulW rfl rfl) ?_
                refine TZ_each [1, 9] (by kernel_rfl) rfl ?_
                refine ⟨?_, ?_⟩
                · refine ⟨_, rfl, ?_⟩
                  refine TL_pure rfl rfl rfl rfl (op_load_one ag26 rfl rfl) ?_
                  refine TL_nil ?_
                  refine TZ_one 9 (by kernel_rfl) rfl ?_
                  refine TL_pure rfl rfl rfl rfl (op_load_one ag2 rfl rfl) ?_
                  refine TL_nil ?_
                  refine TZ_pure 10 (by kernel_rfl) rfl rfl rfl rfl rfl (op_mulW rfl rfl) ?_
                  refine TZ_pure 20 (by kernel_rfl) rfl rfl rfl rfl rfl (op_addW rfl rfl) ?_
                  refine TZ_one 21 (by kernel_rfl) rfl ?_
                  refine TL_buildSlice 601 (es := List.map a_i64 [(w64 ((w64 (q40 * x115)) + (w64 (q37 * x124))))]) el26 z2 rfl rfl rfl rfl rfl rfl rfl rfl rfl ?_
                  refine TL_nil ?_
                  refine TZ_one 22 (by kernel_rfl) rfl ?_
                  refine TL_appendT (f := a_i64) (a := s1.2.1) (b := [(w64 ((w64 (q40 * x115)) + (w64 (q37 * x124))))]) el26 z2 rfl rfl rfl rfl rfl rfl rfl (capI_spec hq129) rfl rfl rfl rfl rfl ?_
                  refine TL_nil ?_
                  refine TZ_pure 23 (by kernel_rfl) rfl rfl rfl rfl rfl (op_fieldAddr fa91_2 rfl rfl) ?_
                  refine TZ_one 24 (by kernel_rfl) rfl ?_
                  refine TL_store_box sz26 rfl rfl rfl rfl rfl rfl rfl rfl rfl ?_
                  refine TL_nil ?_
                  refine TZ_done (by kernel_rfl) ?_
                  refine T_keepH [0, 1, 6, 8, 9, 10, 11, 13] [11, 15, 19, 315] rfl rfl rfl rfl (by rw [hF]; rfl) ?_
                  exact hj1 (s1.2.1 ++ [(w64 ((w64 (q40 * x115)) + (w64 (q37 * x124))))]) hm
                · refine ⟨_, rfl, ?_⟩
                  refine TL_pure rfl rfl rfl rfl (op_load_one ag2 rfl rfl) ?_
                  refine TL_nil ?_
                  refine TZ_pure 10 (by kernel_rfl) rfl rfl rfl rfl rfl (op_mulW rfl rfl) ?_
                  refine TZ_pure 20 (by kernel_rfl) rfl rfl rfl rfl rfl (op_addW rfl rfl) ?_
                  refine TZ_each [1, 21] (by kernel_rfl) rfl ?_
                  refine ⟨?_, ?_⟩
                  · refine ⟨_, rfl, ?_⟩
                    refine TL_pure rfl rfl rfl rfl (op_load_one ag26 rfl rfl) ?_
                    refine TL_nil ?_
                    refine TZ_one 21 (by kernel_rfl) rfl ?_
                    refine TL_buildSlice 603 (es := List.map a_i64 [(w64 ((w64 (q40 * x115)) + (w64 (q37 * x124))))]) el26 z2 rfl rfl rfl rfl rfl rfl rfl rfl rfl ?_
                    refine TL_nil ?_
                    refine TZ_one 22 (by kernel_rfl) rfl ?_
                    refine TL_appendT (f := a_i64) (a := s1.2.1) (b := [(w64 ((w64 (q40 * x115)) + (w64 (q37 * x124))))]) el26 z2 rfl rfl rfl rfl rfl rfl rfl (capI_spec hq129) rfl rfl rfl rfl rfl ?_
                    refine TL_nil ?_
                    refine TZ_pure 23 (by kernel_rfl) rfl rfl rfl rfl rfl (op_fieldAddr fa91_2 rfl rfl) ?_
                    refine TZ_one 24 (by kernel_rfl) rfl ?_
                    refine TL_store_box sz26 rfl rfl rfl rfl rfl rfl rfl rfl rfl ?_
                    refine TL_nil ?_
                    refine TZ_done (by kernel_rfl) ?_
                    refine T_keepH [0, 1, 6, 8, 9, 10, 11, 13] [11, 15, 19, 315] rfl rfl rfl rfl (by rw [hF]; rfl) ?_
                    exact hj1 (s1.2.1 ++ [(w64 ((w64 (q40 * x115)) + (w64 (q37 * x124))))]) hm
                  · refine ⟨_, rfl, ?_⟩
                    refine TL_buildSlice 602 (es := List.map a_i64 [(w64 ((w64 (q40 * x115)) + (w64 (q37 * x124))))]) el26 z2 rfl rfl rfl rfl rfl rfl rfl rfl rfl ?_
                    refine TL_nil ?_
                    refine TZ_pure 1 (by kernel_rfl) rfl rfl rfl rfl rfl (op_load_one ag26 rfl rfl) ?_
                    refine TZ_one 22 (by kernel_rfl) rfl ?_
                    refine TL_appendT (f := a_i64) (a := s1.2.1) (b := [(w64 ((w64 (q40 * x115)) + (w64 (q37 * x124))))]) el26 z2 rfl rfl rfl rfl rfl rfl rfl (capI_spec hq129) rfl rfl rfl rfl rfl ?_
                    refine TL_nil ?_
                    refine TZ_pure 23 (by kernel_rfl) rfl rfl rfl rfl rfl (op_fieldAddr fa91_2 rfl rfl) ?_
                    refine TZ_one 24 (by kernel_rfl) rfl ?_
                    refine TL_store_box sz26 rfl rfl rfl rfl rfl rfl rfl rfl rfl ?_
                    refine TL_nil ?_
                    refine TZ_done (by kernel_rfl) ?_
                    refine T_keepH [0, 1, 6, 8, 9, 10, 11, 13] [11, 15, 19, 315] rfl rfl rfl rfl (by rw [hF]; rfl) ?_
                    exact hj1 (s1.2.1 ++ [(w64 ((w64 (q40 * x115)) + (w64 (q37 * x124))))]) hm
            · refine ⟨_, rfl, ?_⟩
              refine TL_pure rfl rfl rfl rfl (op_load_one ag2 rfl rfl) ?_
              refine TL_nil ?_
              refine TZ_pure 19 (by kernel_rfl) rfl rfl rfl rfl rfl (op_mulW rfl rfl) ?_
              refine TZ_each [1, 6] (by kernel_rfl) rfl ?_
              refine ⟨?_, ?_⟩
              · refine ⟨_, rfl, ?_⟩
                refine TL_pure rfl rfl rfl rfl (op_load_one ag26 rfl rfl) ?_
                refine TL_nil ?_
                refine TZ_one 6 (by kernel_rfl) rfl ?_
                refine TL_pure rfl rfl rfl rfl (op_load_one ag26 rfl rfl) ?_
                refine TL_nil ?_
                refine TZ_pure 8 (by kernel_rfl) rfl rfl rfl rfl rfl (op_indexT el26 rfl rfl hx115 rfl) ?_
                refine TZ_one 9 (by kernel_rfl) rfl ?_
                refine TL_pure rfl rfl rfl rfl (op_load_one ag2 rfl rfl) ?_
                refine TL_nil ?_
                refine TZ_pure 10 (by kernel_rfl) rfl rfl rfl rfl rfl (op_mulW rfl rfl) ?_
                refine TZ_pure 20 (by kernel_rfl) rfl rfl rfl rfl rfl (op_addW rfl rfl) ?_
                refine TZ_one 21 (by kernel_rfl) rfl ?_
                refine TL_buildSlice 604 (es := List.map a_i64 [(w64 ((w64 (q40 * x115)) + (w64 (q37 * x124))))]) el26 z2 rfl rfl rfl rfl rfl rfl rfl rfl rfl ?_
                refine TL_nil ?_
                refine TZ_one 22 (by kernel_rfl) rfl ?_
                refine TL_appendT (f := a_i64) (a := s1.2.1) (b := [(w64 ((w64 (q40 * x115)) + (w64 (q37 * x124))))]) el26 z2 rfl rfl rfl rfl rfl rfl rfl (capI_spec hq129) rfl rfl rfl rfl rfl ?_
                refine TL_nil ?_
                refine TZ_pure 23 (by kernel_rfl) rfl rfl rfl rfl rfl (op_fieldAddr fa91_2 rfl rfl) ?_
                refine TZ_one 24 (by kernel_rfl) rfl ?_
                refine TL_store_box sz26 rfl rfl rfl rfl rfl rfl rfl rfl rfl ?_
                refine TL_nil ?_
                refine TZ_done (by kernel_rfl) ?_
                refine T_keepH [0, 1, 6, 8, 9, 10, 11, 13] [11, 15, 19, 315] rfl rfl rfl rfl (by rw [hF]; rfl) ?_
                exact hj1 (s1.2.1 ++ [(w64 ((w64 (q40 * x115)) + (w64 (q37 * x124))))]) hm
              · refine ⟨_, rfl, ?_⟩
                refine TL_pure rfl rfl rfl rfl (op_load_one ag26 rfl rfl) ?_
                refine TL_nil ?_
                refine TZ_pure 8 (by kernel_rfl) rfl rfl rfl rfl rfl (op_indexT el26 rfl rfl hx115 rfl) ?_
                refine TZ_each [1, 9] (by kernel_rfl) rfl ?_
                refine ⟨?_, ?_⟩
                · refine ⟨_, rfl, ?_⟩
                  refine TL_pure rfl rfl rfl rfl (op_load_one ag26 rfl rfl) ?_
                  refine TL_nil ?_
                  refine TZ_one 9 (by kernel_rfl) rfl ?_
                  refine TL_pure rfl rfl rfl rfl (op_load_one ag2 rfl rfl) ?_
                  refine TL_nil ?_
                  refine TZ_pure 10 (by kernel_rfl) rfl rfl rfl rfl rfl (op_mulW rfl rfl) ?_
                  refine TZ_pure 20 (by kernel_rfl) rfl rfl rfl rfl rfl (op_addW rfl rfl) ?_
                  refine TZ_one 21 (by kernel_rfl) rfl ?_
                  refine TL_buildSlice 605 (es := List.map a_i64 [(w64 ((w64 (q40 * x115)) + (w64 (q37 * x124))))]) el26 z2 rfl rfl rfl rfl rfl rfl rfl rfl rfl ?_
                  refine TL_nil ?_
                  refine TZ_one 22 (by kernel_rfl) rfl ?_
                  refine TL_appendT (f := a_i64) (a := s1.2.1) (b := [(w64 ((w64 (q40 * x115)) + (w64 (q37 * x124))))]) el26 z2 rfl rfl rfl rfl rfl rfl rfl (capI_spec hq129) rfl rfl rfl rfl rfl ?_
                  refine TL_nil ?_
                  refine TZ_pure 23 (by kernel_rfl) rfl rfl rfl rfl rfl (op_fieldAddr fa91_2 rfl rfl) ?_
                  refine TZ_one 24 (by kernel_rfl) rfl ?_
                  refine TL_store_box sz26 rfl rfl rfl rfl rfl rfl rfl rfl rfl ?_
                  refine TL_nil ?_
                  refine TZ_done (by kernel_rfl) ?_
                  refine T_keepH [0, 1, 6, 8, 9, 10, 11, 13] [11, 15, 19, 315] rfl rfl rfl rfl (by rw [hF]; rfl) ?_
                  exact hj1 (s1.2.1 ++ [(w64 ((w64 (q40 * x115)) + (w64 (q37 * x124))))]) hm
                · refine ⟨_, rfl, ?_⟩
                  refine TL_pure rfl rfl rfl rfl (op_load_one ag2 rfl rfl) ?_
                  refine TL_nil ?_
                  refine TZ_pure 10 (by kernel_rfl) rfl rfl rfl rfl rfl (op_mulW rfl rfl) ?_
                  refine TZ_pure 20 (by kernel_rfl) rfl rfl rfl rfl rfl (op_addW rfl rfl) ?_
                  refine TZ_each [1, 21] (by kernel_rfl) rfl ?_
                  refine ⟨?_, ?_⟩
                  · refine ⟨_, rfl, ?_⟩
                    refine TL_pure rfl rfl rfl rfl (op_load_one ag26 rfl rfl) ?_
                    refine TL_nil ?_
                    refine TZ_one 21 (by kernel_rfl) rfl ?_
                    refine TL_buildSlice 607 (es := List.map a_i64 [(w64 ((w64 (q40 * x115)) + (w64 (q37 * x124))))]) el26 z2 rfl rfl rfl rfl rfl rfl rfl rfl rfl ?_
                    refine TL_nil ?_
                    refine TZ_one 22 (by kernel_rfl) rfl ?_
                    refine TL_appendT (f := a_i64) (a := s1.2.1) (b := [(w64 ((w64 (q40 * x115)) + (w64 (q37 * x124))))]) el26 z2 rfl rfl rfl rfl rfl rfl rfl (capI_spec hq129) rfl rfl rfl rfl rfl ?_
                    refine TL_nil ?_
                    refine TZ_pure 23 (by kernel_rfl) rfl rfl rfl rfl rfl (op_fieldAddr fa91_2 rfl rfl) ?_
                    refine TZ_one 24 (by kernel_rfl) rfl ?_
                    refine TL_store_box sz26 rfl rfl rfl rfl rfl rfl rfl rfl rfl ?_
                    refine TL_nil ?_
                    refine TZ_done (by kernel_rfl) ?_
                    refine T_keepH [0, 1, 6, 8, 9, 10, 11, 13] [11, 15, 19, 315] rfl rfl rfl rfl (by rw [hF]; rfl) ?_
                    exact hj1 (s1.2.1 ++ [(w64 ((w64 (q40 * x115)) + (w64 (q37 * x124))))]) hm
                  · refine ⟨_, rfl, ?_⟩
                    refine TL_buildSlice 606 (es := List.map a_i64 [(w64 ((w64 (q40 * x115)) + (w64 (q37 * x124))))]) el26 z2 rfl rfl rfl rfl rfl rfl rfl rfl rfl ?_
                    refine TL_nil ?_
                    refine TZ_pure 1 (by kernel_rfl) rfl rfl rfl rfl rfl (op_load_one ag26 rfl rfl) ?_
                    refine TZ_one 22 (by kernel_rfl) rfl ?_
                    refine TL_appendT (f := a_i64) (a := s1.2.1) (b := [(w64 ((w64 (q40 * x115)) + (w64 (q37 * x124))))]) el26 z2 rfl rfl rfl rfl rfl rfl rfl (capI_spec hq129) rfl rfl rfl rfl rfl ?_
                    refine TL_nil ?_
                    refine TZ_pure 23 (by kernel_rfl) rfl rfl rfl rfl rfl (op_fieldAddr fa91_2 rfl rfl) ?_
                    refine TZ_one 24 (by kernel_rfl) rfl ?_
                    refine TL_store_box sz26 rfl rfl rfl rfl rfl rfl rfl rfl rfl ?_
                    refine TL_nil ?_
                    refine TZ_done (by kernel_rfl) ?_
                    refine T_keepH [0, 1, 6, 8, 9, 10, 11, 13] [11, 15, 19, 315] rfl rfl rfl rfl (by rw [hF]; rfl) ?_
                    exact hj1 (s1.2.1 ++ [(w64 ((w64 (q40 * x115)) + (w64 (q37 * x124))))]) hm
      · replace hm := condF hq hm
        refine T_keepH [6, 10, 11] [11, 15, 19, 315] rfl rfl rfl rfl (by rw [hF]; rfl) ?_
        refine T_exit ?_
        obtain rfl := someI hm
        have hn := CtlOK_out hc1
        exact hx1 (s1.1, s1.2.1) hn
  · unfold m_spec_l06Mix_L0 at hm
    refine T_seq ?_
    refine T_seq ?_
    refine T_region ?_
    refine TL_pure rfl rfl rfl rfl (op_move rfl) ?_
    refine TL_pure rfl rfl rfl rfl (op_move rfl) ?_
    refine TL_pure rfl rfl rfl rfl (op_nilCheck rfl rfl) ?_
    refine TL_pure rfl rfl rfl rfl (op_fieldAddrC (n := 1) fa91_1 rfl rfl rfl) ?_
    refine TL_pure rfl rfl rfl rfl (op_load_one ag26 rfl rfl) ?_
    refine TL_pure rfl rfl rfl rfl (op_lenT Try.underlying26 rfl (List.length_map _)) ?_
    refine TL_fact (fun _ _ _ hr => RelP.slLen (i := 62) rfl hr) (fun hlen63 => ?_)
    rw [List.length_map] at hlen63
    refine TL_pure rfl rfl rfl rfl (op_lss rfl rfl) ?_
    refine TL_nil ?_
    refine T_cond rfl (fun hq => ?_) (fun hq => ?_)
    · replace hm := condT hq hm
      refine T_skip ?_
      refine T_seq ?_
      refine T_block ?_
      refine T_join (fun (j0 : List Int) => ⟨[(0, .cp [.int .i64 p0.c, .sl 1 (List.map a_i64 p0.list), .sl 1 (List.map a_i64 p0.times)]), (1, .cp [.int .i64 p1.c, .sl 1 (List.map a_i64 p1.list), .sl 1 (List.map a_i64 p1.times)]), (6, .ptr 11 0 0), (8, .int .i64 q37), (9, .int .i64 q40), (10, .int .i64 s0.1), (11, .ptr 15 0 0), (12, .int .i64 s0.2.2)], [(11, .box [.int .i64 (0 : Int), .snil, .snil]), (15, .box [.int .i64 (w64 ((w64 (q40 * p0.c)) + (w64 (q37 * p1.c)))), .ow 19, .snil]), (19, .arr ⟨false, false⟩ 1 2 (List.map a_i64 j0))]⟩) (fun j0 => m_spec_l06Mix_J0 s0 j0 = some c0) (fun j0 hm => ?_) (fun hj0 => ?_)
      · unfold m_spec_l06Mix_J0 at hm
        refine T_region ?_
        refine TL_pure rfl rfl rfl rfl (op_move rfl) ?_
        refine TL_pure rfl rfl rfl rfl (op_fieldAddr fa91_1 rfl rfl) ?_
        refine TL_pure rfl rfl rfl rfl (op_load_one ag26 rfl rfl) ?_
        refine TL_pure rfl rfl rfl rfl (op_move rfl) ?_
        obtain ⟨x95, hx95, hm⟩ := bindS hm
        refine TL_pure rfl rfl rfl rfl (op_indexO el26 rfl rfl rfl hx95) ?_
        refine TL_pure rfl rfl rfl rfl (op_loadT1 ag2 rfl rfl ((getI_spec hx95).2) rfl rfl) ?_
        obtain ⟨r97, hr97, hm⟩ := bindS hm
        refine TL_callF (c_spec_l06Gcd s0.1 x95 r97 hr97) Try.call118 rfl rfl rfl rfl rfl ?_
        refine TL_pure rfl rfl rfl rfl (op_assign rfl) ?_
        refine TL_nil ?_
        refine T_region ?_
        refine TL_pure rfl rfl rfl rfl (op_move rfl) ?_
        refine TL_pure rfl rfl rfl rfl (op_addW rfl rfl) ?_
        refine TL_pure rfl rfl rfl rfl (op_assign rfl) ?_
        refine TL_nil ?_
        refine TR_keepH [0, 1, 6, 8, 9, 10, 11, 12] [11, 15, 19] rfl rfl rfl rfl (by rw [hF]; rfl) ?_
        obtain rfl := someI hm
        have hn := CtlOK_next hc0
        exact hn _ rfl
      · refine T_drawZ [21, 22, 24] mix (by kernel_rfl) rfl ?_
        obtain ⟨x75, hx75, hm⟩ := bindS hm
        obtain ⟨x84, hx84, hm⟩ := bindS hm
        obtain ⟨q89, hq89, hm⟩ := bindS hm
        refine TZ_pure 0 (by kernel_rfl) rfl rfl rfl rfl rfl (op_fieldAddr fa91_1 rfl rfl) ?_
        refine TZ_pure 2 (by kernel_rfl) rfl rfl rfl rfl rfl (op_move rfl) ?_
        refine TZ_pure 3 (by kernel_rfl) rfl rfl rfl rfl rfl (op_move rfl) ?_
        refine TZ_pure 4 (by kernel_rfl) rfl rfl rfl rfl rfl (op_nilCheck rfl rfl) ?_
        refine TZ_pure 5 (by kernel_rfl) rfl rfl rfl rfl rfl (op_fieldAddrC (n := 1) fa91_1 rfl rfl rfl) ?_
        refine TZ_pure 7 (by kernel_rfl) rfl rfl rfl rfl rfl (op_move rfl) ?_
        refine TZ_pure 11 (by kernel_rfl) rfl rfl rfl rfl rfl (op_move rfl) ?_
        refine TZ_pure 12 (by kernel_rfl) rfl rfl rfl rfl rfl (op_move rfl) ?_
        refine TZ_pure 13 (by kernel_rfl) rfl rfl rfl rfl rfl (op_nilCheck rfl rfl) ?_
        refine TZ_pure 14 (by kernel_rfl) rfl rfl rfl rfl rfl (op_fieldAddrC (n := 1) fa91_1 rfl rfl rfl) ?_
        refine TZ_pure 16 (by kernel_rfl) rfl rfl rfl rfl rfl (op_move rfl) ?_
        refine TZ_each [1, 6, 15] (by kernel_rfl) rfl ?_
        refine ⟨?_, ?_, ?_⟩
        · refine ⟨_, rfl, ?_⟩
          refine TL_pure rfl rfl rfl rfl (op_load_one ag26 rfl rfl) ?_
          refine TL_nil ?_
          refine TZ_each [6, 15] (by kernel_rfl) rfl ?_
          refine ⟨?_, ?_⟩
          · refine ⟨_, rfl, ?_⟩
            refine TL_pure rfl rfl rfl rfl (op_load_one ag26 rfl rfl) ?_
            refine TL_nil ?_
            refine TZ_pure 8 (by kernel_rfl) rfl rfl rfl rfl rfl (op_indexT el26 rfl rfl hx75 rfl) ?_
            refine TZ_each [9, 15] (by kernel_rfl) rfl ?_
            refine ⟨?_, ?_⟩
            · refine ⟨_, rfl, ?_⟩
              refine TL_pure rfl rfl rfl rfl (op_load_one ag2 rfl rfl) ?_
              refine TL_nil ?_
              refine TZ_pure 10 (by kernel_rfl) rfl rfl rfl rfl rfl (op_mulW rfl rfl) ?_
              refine TZ_one 15 (by kernel_rfl) rfl ?_
              refine TL_pure rfl rfl rfl rfl (op_load_one ag26 rfl rfl) ?_
              refine TL_nil ?_
              refine TZ_pure 17 (by kernel_rfl) rfl rfl rfl rfl rfl (op_indexT el26 rfl rfl hx84 rfl) ?_
              refine TZ_one 18 (by kernel_rfl) rfl ?_
              refine TL_pure rfl rfl rfl rfl (op_load_one ag2 rfl rfl) ?_
              refine TL_nil ?_
              refine TZ_pure 19 (by kernel_rfl) rfl rfl rfl rfl rfl (op_mulW rfl rfl) ?_
              refine TZ_pure 20 (by kernel_rfl) rfl rfl rfl rfl rfl (op_addW rfl rfl) ?_
              refine TZ_one 21 (by kernel_rfl) rfl ?_
              refine TL_buildSlice 276 (es := List.map a_i64 [(w64 ((w64 (q40 * x75)) + (w64 (q37 * x84))))]) el26 z2 rfl rfl rfl rfl rfl rfl rfl rfl rfl ?_
              refine TL_nil ?_
              refine TZ_one 22 (by kernel_rfl) rfl ?_
              refine TL_appendT (f := a_i64) (a := s0.2.1) (b := [(w64 ((w64 (q40 * x75)) + (w64 (q37 * x84))))]) el26 z2 rfl rfl rfl rfl rfl rfl rfl (capI_spec hq89) rfl rfl rfl rfl rfl ?_
              refine TL_nil ?_
              refine TZ_pure 23 (by kernel_rfl) rfl rfl rfl rfl rfl (op_fieldAddr fa91_1 rfl rfl) ?_
              refine TZ_one 24 (by kernel_rfl) rfl ?_
              refine TL_store_box sz26 rfl rfl rfl rfl rfl rfl rfl rfl rfl ?_
              refine TL_nil ?_
              refine TZ_done (by kernel_rfl) ?_
              refine T_keepH [0, 1, 6, 8, 9, 10, 11, 12] [11, 15, 19] rfl rfl rfl rfl (by rw [hF]; rfl) ?_
              exact hj0 (s0.2.1 ++ [(w64 ((w64 (q40 * x75)) + (w64 (q37 * x84))))]) hm
            · refine ⟨_, rfl, ?_⟩
              refine TL_pure rfl rfl rfl rfl (op_load_one ag26 rfl rfl) ?_
              refine TL_nil ?_
              refine TZ_pure 17 (by kernel_rfl) rfl rfl rfl rfl rfl (op_indexT el26 rfl rfl hx84 rfl) ?_
              refine TZ_each [9, 18] (by kernel_rfl) rfl ?_
              refine ⟨?_, ?_⟩
              · refine ⟨_, rfl, ?_⟩
                refine TL_pure rfl rfl rfl rfl (op_load_one ag2 rfl rfl) ?_
                refine TL_nil ?_
                refine TZ_pure 10 (by kernel_rfl) rfl rfl rfl rfl rfl (op_mulW rfl rfl) ?_
                refine TZ_one 18 (by kernel_rfl) rfl ?_
                refine TL_pure rfl rfl rfl rfl (op_load_one ag2 rfl rfl) ?_
                refine TL_nil ?_
                refine TZ_pure 19 (by kernel_rfl) rfl rfl rfl rfl rfl (op_mulW rfl rfl) ?_
                refine TZ_pure 20 (by kernel_rfl) rfl rfl rfl rfl rfl (op_addW rfl rfl) ?_
                refine TZ_one 21 (by kernel_rfl) rfl ?_
                refine TL_buildSlice 277 (es := List.map a_i64 [(w64 ((w64 (q40 * x75)) + (w64 (q37 * x84))))]) el26 z2 rfl rfl rfl rfl rfl rfl rfl rfl rfl ?_
                refine TL_nil ?_
                refine TZ_one 22 (by kernel_rfl) rfl ?_
                refine TL_appendT (f := a_i64) (a := s0.2.1) (b := [(w64 ((w64 (q40 * x75)) + (w64 (q37 * x84))))]) el26 z2 rfl rfl rfl rfl rfl rfl rfl (capI_spec hq89) rfl rfl rfl rfl rfl ?_
                refine TL_nil ?_
                refine TZ_pure 23 (by kernel_rfl) rfl rfl rfl rfl rfl (op_fieldAddr fa91_1 rfl rfl) ?_
                refine TZ_one 24 (by kernel_rfl) rfl ?_
                refine TL_store_box sz26 rfl rfl rfl rfl rfl rfl rfl rfl rfl ?_
                refine TL_nil ?_
                refine TZ_done (by kernel_rfl) ?_
                refine T_keepH [0, 1, 6, 8, 9, 10, 11, 12] [11, 15, 19] rfl rfl rfl rfl (by rw [hF]; rfl) ?_
                exact hj0 (s0.2.1 ++ [(w64 ((w64 (q40 * x75)) + (w64 (q37 * x84))))]) hm
              · refine ⟨_, rfl, ?_⟩
                refine TL_pure rfl rfl rfl rfl (op_load_one ag2 rfl rfl) ?_
                refine TL_nil ?_
                refine TZ_pure 19 (by kernel_rfl) rfl rfl rfl rfl rfl (op_mulW rfl rfl) ?_
                refine TZ_one 9 (by kernel_rfl) rfl ?_
                refine TL_pure rfl rfl rfl rfl (op_load_one ag2 rfl rfl) ?_
                refine TL_nil ?_
                refine TZ_pure 10 (by kernel_rfl) rfl rfl rfl rfl rfl (op_mulW rfl rfl) ?_
                refine TZ_pure 20 (by kernel_rfl) rfl rfl rfl rfl rfl (op_addW rfl rfl) ?_
                refine TZ_one 21 (by kernel_rfl) rfl ?_
                refine TL_buildSlice 278 (es := List.map a_i64 [(w64 ((w64 (q40 * x75)) + (w64 (q37 * x84))))]) el26 z2 rfl rfl rfl rfl rfl rfl rfl rfl rfl ?_
                refine TL_nil ?_
                refine TZ_one 22 (by kernel_rfl) rfl ?_
                refine TL_appendT (f := a_i64) (a := s0.2.1) (b := [(w64 ((w64 (q40 * x75)) + (w64 (q37 * x84))))]) el26 z2 rfl rfl rfl rfl rfl rfl rfl (capI_spec hq89) rfl rfl rfl rfl rfl ?_
                refine TL_nil ?_
                refine TZ_pure 23 (by kernel_rfl) rfl rfl rfl rfl rfl (op_fieldAddr fa91_1 rfl rfl) ?_
                refine TZ_one 24 (by kernel_rfl) rfl ?_
                refine TL_store_box sz26 rfl rfl rfl rfl rfl rfl rfl rfl rfl ?_
                refine TL_nil ?_
                refine TZ_done (by kernel_rfl) ?_
                refine T_keepH [0, 1, 6, 8, 9, 10, 11, 12] [11, 15, 19] rfl rfl rfl rfl (by rw [hF]; rfl) ?_
                exact hj0 (s0.2.1 ++ [(w64 ((w64 (q40 * x75)) + (w64 (q37 * x84))))]) hm
          · refine ⟨_, rfl, ?_⟩
            refine TL_pure rfl rfl rfl rfl (op_load_one ag26 rfl rfl) ?_
            refine TL_nil ?_
            refine TZ_pure 17 (by kernel_rfl) rfl rfl rfl rfl rfl (op_indexT el26 rfl rfl hx84 rfl) ?_
            refine TZ_each [6, 18] (by kernel_rfl) rfl ?_
            refine ⟨?_, ?_⟩
            · refine ⟨_, rfl, ?_⟩
              refine TL_pure rfl rfl rfl rfl (op_load_one ag26 rfl rfl) ?_
              refine TL_nil ?_
              refine TZ_pure 8 (by kernel_rfl) rfl rfl rfl rfl rfl (op_indexT el26 rfl rfl hx75 rfl) ?_
              refine TZ_each [9, 18] (by kernel_rfl) rfl ?_
              refine ⟨?_, ?_⟩
              · refine ⟨_, rfl, ?_⟩
                refine TL_pure rfl rfl rfl rfl (op_load_one ag2 rfl rfl) ?_
                refine TL_nil ?_
                refine TZ_pure 10 (by kernel_rfl) rfl rfl rfl rfl rfl (op_mulW rfl rfl) ?_
                refine TZ_one 18 (by kernel_rfl) rfl ?_
                refine TL_pure rfl rfl rfl rfl (op_load_one ag2 rfl rfl) ?_
                refine TL_nil ?_
                refine TZ_pure 19 (by kernel_rfl) rfl rfl rfl rfl rfl (op_mulW rfl rfl) ?_
                refine TZ_pure 20 (by kernel_rfl) rfl rfl rfl rfl rfl (op_addW rfl rfl) ?_
                refine TZ_one 21 (by kernel_rfl) rfl ?_
                refine TL_buildSlice 279 (es := List.map a_i64 [(w64 ((w64 (q40 * x75)) + (w64 (q37 * x84))))]) el26 z2 rfl rfl rfl rfl rfl rfl rfl rfl rfl ?_
                refine TL_nil ?_
                refine TZ_one 22 (by kernel_rfl) rfl ?_
                refine TL_appendT (f := a_i64) (a := s0.2.1) (b := [(w64 ((w64 (q40 * x75)) + (w64 (q37 * x84))))]) el26 z2 rfl rfl rfl rfl rfl rfl rfl (capI_spec hq89) rfl rfl rfl rfl rfl ?_
                refine TL_nil ?_
                refine TZ_pure 23 (by kernel_rfl) rfl rfl rfl rfl rfl (op_fieldAddr fa91_1 rfl rfl) ?_
                refine TZ_one 24 (by kernel_rfl) rfl ?_
                refine TL_store_box sz26 rfl rfl rfl rfl rfl rfl rfl rfl rfl ?_
                refine TL_nil ?_
                refine TZ_done (by kernel_rfl) ?_
                refine T_keepH [0, 1, 6, 8, 9, 10, 11, 12] [11, 15, 19] rfl rfl rfl rfl (by rw [hF]; rfl) ?_
                exact hj0 (s0.2.1 ++ [(w64 ((w64 (q40 * x75)) + (w64 (q37 * x84))))]) hm
              · refine ⟨_, rfl, ?_⟩
                refine TL_pure rfl rfl rfl rfl (op_load_one ag2 rfl rfl) ?_
                refine TL_nil ?_
                refine TZ_pure 19 (by kernel_rfl) rfl rfl rfl rfl rfl (op_mulW rfl rfl) ?_
                refine TZ_one 9 (by kernel_rfl) rfl ?_
                refine TL_pure rfl rfl rfl rfl (op_load_one ag2 rfl rfl) ?_
                refine TL_nil ?_
                refine TZ_pure 10 (by kernel_rfl) rfl rfl rfl rfl rfl (op_mulW rfl rfl) ?_
                refine TZ_pure 20 (by kernel_rfl) rfl rfl rfl rfl rfl (op_addW rfl rfl) ?_
                refine TZ_one 21 (by kernel_rfl) rfl ?_
                refine TL_buildSlice 280 (es := List.map a_i64 [(w64 ((w64 (q40 * x75)) + (w64 (q37 * x84))))]) el26 z2 rfl rfl rfl rfl rfl rfl rfl rfl rfl ?_
                refine TL_nil ?_
                refine TZ_one 22 (by kernel_rfl) rfl ?_
                refine TL_appendT (f := a_i64) (a := s0.2.1) (b := [(w64 ((w64 (q40 * x75)) + (w64 (q37 * x84))))]) el26 z2 rfl rfl rfl rfl rfl rfl rfl (capI_spec hq89) rfl rfl rfl rfl rfl ?_
                refine TL_nil ?_
                refine TZ_pure 23 (by kernel_rfl) rfl rfl rfl rfl rfl (op_fieldAddr fa91_1 rfl rfl) ?_
                refine TZ_one 24 (by kernel_rfl) rfl ?_
                refine TL_store_box sz26 rfl rfl rfl rfl rfl rfl rfl rfl rfl ?_
                refine TL_nil ?_
                refine TZ_done (by kernel_rfl) ?_
                refine T_keepH [0, 1, 6, 8, 9, 10, 11, 12] [11, 15, 19] rfl rfl rfl rfl (by rw [hF]; rfl) ?_
                exact hj0 (s0.2.1 ++ [(w64 ((w64 (q40 * x75)) + (w64 (q37 * x84))))]) hm
            · refine ⟨_, rfl, ?_⟩
              refine TL_pure rfl rfl rfl rfl (op_load_one ag2 rfl rfl) ?_
              refine TL_nil ?_
              refine TZ_pure 19 (by kernel_rfl) rfl rfl rfl rfl rfl (op_mulW rfl rfl) ?_
              refine TZ_one 6 (by kernel_rfl) rfl ?_
              refine TL_pure rfl rfl rfl rfl (op_load_one ag26 rfl rfl) ?_
              refine TL_nil ?_
              refine TZ_pure 8 (by kernel_rfl) rfl rfl rfl rfl rfl (op_indexT el26 rfl rfl hx75 rfl) ?_
              refine TZ_one 9 (by kernel_rfl) rfl ?_
              refine TL_pure rfl rfl rfl rfl (op_load_one ag2 rfl rfl) ?_
              refine TL_nil ?_
              refine TZ_pure 10 (by kernel_rfl) rfl rfl rfl rfl rfl (op_mulW rfl rfl) ?_
              refine TZ_pure 20 (by kernel_rfl) rfl rfl rfl rfl rfl (op_addW rfl rfl) ?_
              refine TZ_one 21 (by kernel_rfl) rfl ?_
              refine TL_buildSlice 281 (es := List.map a_i64 [(w64 ((w64 (q40 * x75)) + (w64 (q37 * x84))))]) el26 z2 rfl rfl rfl rfl rfl rfl rfl rfl rfl ?_
              refine TL_nil ?_
              refine TZ_one 22 (by kernel_rfl) rfl ?_
              refine TL_appendT (f := a_i64) (a := s0.2.1) (b := [(w64 ((w64 (q40 * x75)) + (w64 (q37 * x84))))]) el26 z2 rfl rfl rfl rfl rfl rfl rfl (capI_spec hq89) rfl rfl rfl rfl rfl ?_
              refine TL_nil ?_
              refine TZ_pure 23 (by kernel_rfl) rfl rfl rfl rfl rfl (op_fieldAddr fa91_1 rfl rfl) ?_
              refine TZ_one 24 (by kernel_rfl) rfl ?_
              refine TL_store_box sz26 rfl rfl rfl rfl rfl rfl rfl rfl rfl ?_
              refine TL_nil ?_
              refine TZ_done (by kernel_rfl) ?_
              refine T_keepH [0, 1, 6, 8, 9, 10, 11, 12] [11, 15, 19] rfl rfl rfl rfl (by rw [hF]; rfl) ?_
              exact hj0 (s0.2.1 ++ [(w64 ((w64 (q40 * x75)) + (w64 (q37 * x84))))]) hm
        · refine ⟨_, rfl, ?_⟩
          refine TL_pure rfl rfl rfl rfl (op_load_one ag26 rfl rfl) ?_
          refine TL_nil ?_
          refine TZ_pure 8 (by kernel_rfl) rfl rfl rfl rfl rfl (op_indexT el26 rfl rfl hx75 rfl) ?_
          refine TZ_each [1, 9, 15] (by kernel_rfl) rfl ?_
          refine ⟨?_, ?_, ?_⟩
          · refine ⟨_, rfl, ?_⟩
            refine TL_pure rfl rfl rfl rfl (op_load_one ag26 rfl rfl) ?_
            refine TL_nil ?_
            refine TZ_each [9, 15] (by kernel_rfl) rfl ?_
            refine ⟨?_, ?_⟩
            · refine ⟨_, rfl, ?_⟩
              refine TL_pure rfl rfl rfl rfl (op_load_one ag2 rfl rfl) ?_
              refine TL_nil ?_
              refine TZ_pure 10 (by kernel_rfl) rfl rfl rfl rfl rfl (op_mulW rfl rfl) ?_
              refine TZ_one 15 (by kernel_rfl) rfl ?_
              refine TL_pure rfl rfl rfl rfl (op_load_one ag26 rfl rfl) ?_
              refine TL_nil ?_
              refine TZ_pure 17 (by kernel_rfl) rfl rfl rfl rfl rfl (op_indexT el26 rfl rfl hx84 rfl) ?_
              refine TZ_one 18 (by kernel_rfl) rfl ?_
              refine TL_pure rfl rfl rfl rfl (op_load_one ag2 rfl rfl) ?_
              refine TL_nil ?_
              refine TZ_pure 19 (by kernel_rfl) rfl rfl rfl rfl rfl (op_mulW rfl rfl) ?_
              refine TZ_pure 20 (by kernel_rfl) rfl rfl rfl rfl rfl (op_addW rfl rfl) ?_
              refine TZ_one 21 (by kernel_rfl) rfl ?_
              refine TL_buildSlice 282 (es := List.map a_i64 [(w64 ((w64 (q40 * x75)) + (w64 (q37 * x84))))]) el26 z2 rfl rfl rfl rfl rfl rfl rfl rfl rfl ?_
              refine TL_nil ?_
              refine TZ_one 22 (by kernel_rfl) rfl ?_
              refine TL_appendT (f := a_i64) (a := s0.2.1) (b := [(w64 ((w64 (q40 * x75)) + (w64 (q37 * x84))))]) el26 z2 rfl rfl rfl rfl rfl rfl rfl (capI_spec hq89) rfl rfl rfl rfl rfl ?_
              refine TL_nil ?_
              refine TZ_pure 23 (by kernel_rfl) rfl rfl rfl rfl rfl (op_fieldAddr fa91_1 rfl rfl) ?_
              refine TZ_one 24 (by kernel_rfl) rfl ?_
              refine TL_store_box sz26 rfl rfl rfl rfl rfl rfl rfl rfl rfl ?_
              refine TL_nil ?_
              refine TZ_done (by kernel_rfl) ?_
              refine T_keepH [0, 1, 6, 8, 9, 10, 11, 12] [11, 15, 19] rfl rfl rfl rfl (by rw [hF]; rfl) ?_
              exact hj0 (s0.2.1 ++ [(w64 ((w64 (q40 * x75)) + (w64 (q37 * x84))))]) hm
            · refine ⟨_, rfl, ?_⟩
              refine TL_pure rfl rfl rfl rfl (op_load_one ag26 rfl rfl) ?_
              refine TL_nil ?_
              refine TZ_pure 17 (by kernel_rfl) rfl rfl rfl rfl rfl (op_indexT el26 rfl rfl hx84 rfl) ?_
              refine TZ_each [9, 18] (by kernel_rfl) rfl ?_
              refine ⟨?_, ?_⟩
              · refine ⟨_, rfl, ?_⟩
                refine TL_pure rfl rfl rfl rfl (op_load_one ag2 rfl rfl) ?_
                refine TL_nil ?_
                refine TZ_pure 10 (by kernel_rfl) rfl rfl rfl rfl rfl (op_mulW rfl rfl) ?_
                refine TZ_one 18 (by kernel_rfl) rfl ?_
                refine TL_pure rfl rfl rfl rfl (op_load_one ag2 rfl rfl) ?_
                refine TL_nil ?_
                refine TZ_pure 19 (by kernel_rfl) rfl rfl rfl rfl rfl (op_mulW rfl rfl) ?_
                refine TZ_pure 20 (by kernel_rfl) rfl rfl rfl rfl rfl (op_addW rfl rfl) ?_
                refine TZ_one 21 (by kernel_rfl) rfl ?_
                refine TL_buildSlice 283 (es := List.map a_i64 [(w64 ((w64 (q40 * x75)) + (w64 (q37 * x84))))]) el26 z2 rfl rfl rfl rfl rfl rfl rfl rfl rfl ?_
                refine TL_nil ?_
                refine TZ_one 22 (by kernel_rfl) rfl ?_
                refine TL_appendT (f := a_i64) (a := s0.2.1) (b := [(w64 ((w64 (q40 * x75)) + (w64 (q37 * x84))))]) el26 z2 rfl rfl rfl rfl rfl rfl rfl (capI_spec hq89) rfl rfl rfl rfl rfl ?_
                refine TL_nil ?_
                refine TZ_pure 23 (by kernel_rfl) rfl rfl rfl rfl rfl (op_fieldAddr fa91_1 rfl rfl) ?_
                refine TZ_one 24 (by kernel_rfl) rfl ?_
                refine TL_store_box sz26 rfl rfl rfl rfl rfl rfl rfl rfl rfl ?_
                refine TL_nil ?_
                refine TZ_done (by kernel_rfl) ?_
                refine T_keepH [0, 1, 6, 8, 9, 10, 11, 12] [11, 15, 19] rfl rfl rfl rfl (by rw [hF]; rfl) ?_
                exact hj0 (s0.2.1 ++ [(w64 ((w64 (q40 * x75)) + (w64 (q37 * x84))))]) hm
              · refine ⟨_, rfl, ?_⟩
                refine TL_pure rfl rfl rfl rfl (op_load_one ag2 rfl rfl) ?_
                refine TL_nil ?_
                refine TZ_pure 19 (by kernel_rfl) rfl rfl rfl rfl rfl (op_mulW rfl rfl) ?_
                refine TZ_one 9 (by kernel_rfl) rfl ?_
                refine TL_pure rfl rfl rfl rfl (op_load_one ag2 rfl rfl) ?_
                refine TL_nil ?_
                refine TZ_pure 10 (by kernel_rfl) rfl rfl rfl rfl rfl (op_mulW rfl rfl) ?_
                refine TZ_pure 20 (by kernel_rfl) rfl rfl rfl rfl rfl (op_addW rfl rfl) ?_
                refine TZ_one 21 (by kernel_rfl) rfl ?_
                refine TL_buildSlice 284 (es := List.map a_i64 [(w64 ((w64 (q40 * x75)) + (w64 (q37 * x84))))]) el26 z2 rfl rfl rfl rfl rfl rfl rfl rfl rfl ?_
                refine TL_nil ?_
                refine TZ_one 22 (by kernel_rfl) rfl ?_
                refine TL_appendT (f := a_i64) (a := s0.2.1) (b := [(w64 ((w64 (q40 * x75)) + (w64 (q37 * x84))))]) el26 z2 rfl rfl rfl rfl rfl rfl rfl (capI_spec hq89) rfl rfl rfl rfl rfl ?_
                refine TL_nil ?_
                refine TZ_pure 23 (by kernel_rfl) rfl rfl rfl rfl rfl (op_fieldAddr fa91_1 rfl rfl) ?_
                refine TZ_one 24 (by kernel_rfl) rfl ?_
                refine TL_store_box sz26 rfl rfl rfl rfl rfl rfl rfl rfl rfl ?_
                refine TL_nil ?_
                refine TZ_done (by kernel_rfl) ?_
                refine T_keepH [0, 1, 6, 8, 9, 10, 11, 12] [11, 15, 19] rfl rfl rfl rfl (by rw [hF]; rfl) ?_
                exact hj0 (s0.2.1 ++ [(w64 ((w64 (q40 * x75)) + (w64 (q37 * x84))))]) hm
          · refine ⟨_, rfl, ?_⟩
            refine TL_pure rfl rfl rfl rfl (op_load_one ag2 rfl rfl) ?_
            refine TL_nil ?_
            refine TZ_pure 10 (by kernel_rfl) rfl rfl rfl rfl rfl (op_mulW rfl rfl) ?_
            refine TZ_each [1, 15] (by kernel_rfl) rfl ?_
            refine ⟨?_, ?_⟩
            · refine ⟨_, rfl, ?_⟩
              refine TL_pure rfl rfl rfl rfl (op_load_one ag26 rfl rfl) ?_
              refine TL_nil ?_
              refine TZ_one 15 (by kernel_rfl) rfl ?_
              refine TL_pure rfl rfl rfl rfl (op_load_one ag26 rfl rfl) ?_
              refine TL_nil ?_
              refine TZ_pure 17 (by kernel_rfl) rfl rfl rfl rfl rfl (op_indexT el26 rfl rfl hx84 rfl) ?_
              refine TZ_one 18 (by kernel_rfl) rfl ?_
              refine TL_pure rfl rfl rfl rfl (op_load_one ag2 rfl rfl) ?_
              refine TL_nil ?_
              refine TZ_pure 19 (by kernel_rfl) rfl rfl rfl rfl rfl (op_mulW rfl rfl) ?_
              refine TZ_pure 20 (by kernel_rfl) rfl rfl rfl rfl rfl (op_addW rfl rfl) ?_
              refine TZ_one 21 (by kernel_rfl) rfl ?_
              refine TL_buildSlice 285 (es := List.map a_i64 [(w64 ((w64 (q40 * x75)) + (w64 (q37 * x84))))]) el26 z2 rfl rfl rfl rfl rfl rfl rfl rfl rfl ?_
              refine TL_nil ?_
              refine TZ_one 22 (by kernel_rfl) rfl ?_
              refine TL_appendT (f := a_i64) (a := s0.2.1) (b := [(w64 ((w64 (q40 * x75)) + (w64 (q37 * x84))))]) el26 z2 rfl rfl rfl rfl rfl rfl rfl (capI_spec hq89) rfl rfl rfl rfl rfl ?_
              refine TL_nil ?_
              refine TZ_pure 23 (by kernel_rfl) rfl rfl rfl rfl rfl (op_fieldAddr fa91_1 rfl rfl) ?_
              refine TZ_one 24 (by kernel_rfl) rfl ?_
              refine TL_store_box sz26 rfl rfl rfl rfl rfl rfl rfl rfl rfl ?_
              refine TL_nil ?_
              refine TZ_done (by kernel_rfl) ?_
              refine T_keepH [0, 1, 6, 8, 9, 10, 11, 12] [11, 15, 19] rfl rfl rfl rfl (by rw [hF]; rfl) ?_
              exact hj0 (s0.2.1 ++ [(w64 ((w64 (q40 * x75)) + (w64 (q37 * x84))))]) hm
            · refine ⟨_, rfl, ?_⟩
              refine TL_pure rfl rfl rfl rfl (op_load_one ag26 rfl rfl) ?_
              refine TL_nil ?_
              refine TZ_pure 17 (by kernel_rfl) rfl rfl rfl rfl rfl (op_indexT el26 rfl rfl hx84 rfl) ?_
              refine TZ_each [1, 18] (by kernel_rfl) rfl ?_
              refine ⟨?_, ?_⟩
              · refine ⟨_, rfl, ?_⟩
                refine TL_pure rfl rfl rfl rfl (op_load_one ag26 rfl rfl) ?_
                refine TL_nil ?_
                refine TZ_one 18 (by kernel_rfl) rfl ?_
                refine TL_pure rfl rfl rfl rfl (op_load_one ag2 rfl rfl) ?_
                refine TL_nil ?_
                refine TZ_pure 19 (by kernel_rfl) rfl rfl rfl rfl rfl (op_mulW rfl rfl) ?_
                refine TZ_pure 20 (by kernel_rfl) rfl rfl rfl rfl rfl (op_addW rfl rfl) ?_
                refine TZ_one 21 (by kernel_rfl) rfl ?_
                refine TL_buildSlice 286 (es := List.map a_i64 [(w64 ((w64 (q40 * x75)) + (w64 (q37 * x84))))]) el26 z2 rfl rfl rfl rfl rfl rfl rfl rfl rfl ?_
                refine TL_nil ?_
                refine TZ_one 22 (by kernel_rfl) rfl ?_
                refine TL_appendT (f := a_i64) (a := s0.2.1) (b := [(w64 ((w64 (q40 * x75)) + (w64 (q37 * x84))))]) el26 z2 rfl rfl rfl rfl rfl rfl rfl (capI_spec hq89) rfl rfl rfl rfl rfl ?_
                refine TL_nil ?_
                refine TZ_pure 23 (by kernel_rfl) rfl rfl rfl rfl rfl (op_fieldAddr fa91_1 rfl rfl) ?_
                refine TZ_one 24 (by kernel_rfl) rfl ?_
                refine TL_store_box sz26 rfl rfl rfl rfl rfl rfl rfl rfl rfl ?_
                refine TL_nil ?_
                refine TZ_done (by kernel_rfl) ?_
                refine T_keepH [0, 1, 6, 8, 9, 10, 11, 12] [11, 15, 19] rfl rfl rfl rfl (by rw [hF]; rfl) ?_
                exact hj0 (s0.2.1 ++ [(w64 ((w64 (q40 * x75)) + (w64 (q37 * x84))))]) hm
              · refine ⟨_, rfl, ?_⟩
                refine TL_pure rfl rfl rfl rfl (op_load_one ag2 rfl rfl) ?_
                refine TL_nil ?_
                refine TZ_pure 19 (by kernel_rfl) rfl rfl rfl rfl rfl (op_mulW rfl rfl) ?_
                refine TZ_pure 20 (by kernel_rfl) rfl rfl rfl rfl rfl (op_addW rfl rfl) ?_
                refine TZ_each [1, 21] (by kernel_rfl) rfl ?_
                refine ⟨?_, ?_⟩
                · refine ⟨_, rfl, ?_⟩
                  refine TL_pure rfl rfl rfl rfl (op_load_one ag26 rfl rfl) ?_
                  refine TL_nil ?_
                  refine TZ_one 21 (by kernel_rfl) rfl ?_
                  refine TL_buildSlice 288 (es := List.map a_i64 [(w64 ((w64 (q40 * x75)) + (w64 (q37 * x84))))]) el26 z2 rfl rfl rfl rfl rfl rfl rfl rfl rfl ?_
                  refine TL_nil ?_
                  refine TZ_one 22 (by kernel_rfl) rfl ?_
                  refine TL_appendT (f := a_i64) (a := s0.2.1) (b := [(w64 ((w64 (q40 * x75)) + (w64 (q37 * x84))))]) el26 z2 rfl rfl rfl rfl rfl rfl rfl (capI_spec hq89) rfl rfl rfl rfl rfl ?_
                  refine TL_nil ?_
                  refine TZ_pure 23 (by kernel_rfl) rfl rfl rfl rfl rfl (op_fieldAddr fa91_1 rfl rfl) ?_
                  refine TZ_one 24 (by kernel_rfl) rfl ?_
                  refine TL_store_box sz26 rfl rfl rfl rfl rfl rfl rfl rfl rfl ?_
                  refine TL_nil ?_
                  refine TZ_done (by kernel_rfl) ?_
                  refine T_keepH [0, 1, 6, 8, 9, 10, 11, 12] [11, 15, 19] rfl rfl rfl rfl (by rw [hF]; rfl) ?_
                  exact hj0 (s0.2.1 ++ [(w64 ((w64 (q40 * x75)) + (w64 (q37 * x84))))]) hm
                · refine ⟨_, rfl, ?_⟩
                  refine TL_buildSlice 287 (es := List.map a_i64 [(w64 ((w64 (q40 * x75)) + (w64 (q37 * x84))))]) el26 z2 rfl rfl rfl rfl rfl rfl rfl rfl rfl ?_
                  refine TL_nil ?_
                  refine TZ_pure 1 (by kernel_rfl) rfl rfl rfl rfl rfl (op_load_one ag26 rfl rfl) ?_
                  refine TZ_one 22 (by kernel_rfl) rfl ?_
                  refine TL_appendT (f := a_i64) (a := s0.2.1) (b := [(w64 ((w64 (q40 * x75)) + (w64 (q37 * x84))))]) el26 z2 rfl rfl rfl rfl rfl rfl rfl (capI_spec hq89) rfl rfl rfl rfl rfl ?_
                  refine TL_nil ?_
                  refine TZ_pure 23 (by kernel_rfl) rfl rfl rfl rfl rfl (op_fieldAddr fa91_1 rfl rfl) ?_
                  refine TZ_one 24 (by kernel_rfl) rfl ?_
                  refine TL_store_box sz26 rfl rfl rfl rfl rfl rfl rfl rfl rfl ?_
                  refine TL_nil ?_
                  refine TZ_done (by kernel_rfl) ?_
                  refine T_keepH [0, 1, 6, 8, 9, 10, 11, 12] [11, 15, 19] rfl rfl rfl rfl (by rw [hF]; rfl) ?_
                  exact hj0 (s0.2.1 ++ [(w64 ((w64 (q40 * x75)) + (w64 (q37 * x84))))]) hm
          · refine ⟨_, rfl, ?_⟩
            refine TL_pure rfl rfl rfl rfl (op_load_one ag26 rfl rfl) ?_
            refine TL_nil ?_
            refine TZ_pure 17 (by kernel_rfl) rfl rfl rfl rfl rfl (op_indexT el26 rfl rfl hx84 rfl) ?_
            refine TZ_each [1, 9, 18] (by kernel_rfl) rfl ?_
            refine ⟨?_, ?_, ?_⟩
            · refine ⟨_, rfl, ?_⟩
              refine TL_pure rfl rfl rfl rfl (op_load_one ag26 rfl rfl) ?_
              refine TL_nil ?_
              refine TZ_each [9, 18] (by kernel_rfl) rfl ?_
              refine ⟨?_, ?_⟩
              · refine ⟨_, rfl, ?_⟩
                refine TL_pure rfl rfl rfl rfl (op_load_one ag2 rfl rfl) ?_
                refine TL_nil ?_
                refine TZ_pure 10 (by kernel_rfl) rfl rfl rfl rfl rfl (op_mulW rfl rfl) ?_
                refine TZ_one 18 (by kernel_rfl) rfl ?_
                refine TL_pure rfl rfl rfl rfl (op_load_one ag2 rfl rfl) ?_
                refine TL_nil ?_
                refine TZ_pure 19 (by kernel_rfl) rfl rfl rfl rfl rfl (op_mulW rfl rfl) ?_
                refine TZ_pure 20 (by kernel_rfl) rfl rfl rfl rfl rfl (op_addW rfl rfl) ?_
                refine TZ_one 21 (by kernel_rfl) rfl ?_
                refine TL_buildSlice 289 (es := List.map a_i64 [(w64 ((w64 (q40 * x75)) + (w64 (q37 * x84))))]) el26 z2 rfl rfl rfl rfl rfl rfl rfl rfl rfl ?_
                refine TL_nil ?_
                refine TZ_one 22 (by kernel_rfl) rfl ?_
                refine TL_appendT (f := a_i64) (a := s0.2.1) (b := [(w64 ((w64 (q40 * x75)) + (w64 (q37 * x84))))]) el26 z2 rfl rfl rfl rfl rfl rfl rfl (capI_spec hq89) rfl rfl rfl rfl rfl ?_
                refine TL_nil ?_
                refine TZ_pure 23 (by kernel_rfl) rfl rfl rfl rfl rfl (op_fieldAddr fa91_1 rfl rfl) ?_
                refine TZ_one 24 (by kernel_rfl) rfl ?_
                refine TL_store_box sz26 rfl rfl rfl rfl rfl rfl rfl rfl rfl ?_
                refine TL_nil ?_
                refine TZ_done (by kernel_rfl) ?_
                refine T_keepH [0, 1, 6, 8, 9, 10, 11, 12] [11, 15, 19] rfl rfl rfl rfl (by rw [hF]; rfl) ?_
                exact hj0 (s0.2.1 ++ [(w64 ((w64 (q40 * x75)) + (w64 (q37 * x84))))]) hm
              · refine ⟨_, rfl, ?_⟩
                refine TL_pure rfl rfl rfl rfl (op_load_one ag2 rfl rfl) ?_
                refine TL_nil ?_
                refine TZ_pure 19 (by kernel_rfl) rfl rfl rfl rfl rfl (op_mulW rfl rfl) ?_
                refine TZ_one 9 (by kernel_rfl) rfl ?_
                refine TL_pure rfl rfl rfl rfl (op_load_one ag2 rfl rfl) ?_
                refine TL_nil ?_
                refine TZ_pure 10 (by kernel_rfl) rfl rfl rfl rfl rfl (op_mulW rfl rfl) ?_
                refine TZ_pure 20 (by kernel_rfl) rfl rfl rfl rfl rfl (op_addW rfl rfl) ?_
                refine TZ_one 21 (by kernel_rfl) rfl ?_
                refine TL_buildSlice 290 (es := List.map a_i64 [(w64 ((w64 (q40 * x75)) + (w64 (q37 * x84))))]) el26 z2 rfl rfl rfl rfl rfl rfl rfl rfl rfl ?_
                refine TL_nil ?_
                refine TZ_one 22 (by kernel_rfl) rfl ?_
                refine TL_appendT (f := a_i64) (a := s0.2.1) (b := [(w64 ((w64 (q40 * x75)) + (w64 (q37 * x84))))]) el26 z2 rfl rfl rfl rfl rfl rfl rfl (capI_spec hq89) rfl rfl rfl rfl rfl ?_
                refine TL_nil ?_
                refine TZ_pure 23 (by kernel_rfl) rfl rfl rfl rfl rfl (op_fieldAddr fa91_1 rfl rfl) ?_
                refine TZ_one 24 (by kernel_rfl) rfl ?_
                refine TL_store_box sz26 rfl rfl rfl rfl rfl rfl rfl rfl rfl ?_
                refine TL_nil ?_
                refine TZ_done (by kernel_rfl) ?_
                refine T_keepH [0, 1, 6, 8, 9, 10, 11, 12] [11, 15, 19] rfl rfl rfl rfl (by rw [hF]; rfl) ?_
                exact hj0 (s0.2.1 ++ [(w64 ((w64 (q40 * x75)) + (w64 (q37 * x84))))]) hm
            · refine ⟨_, rfl, ?_⟩
              refine TL_pure rfl rfl rfl rfl (op_load_one ag2 rfl rfl) ?_
              refine TL_nil ?_
              refine TZ_pure 10 (by kernel_rfl) rfl rfl rfl rfl rfl (op_mulW rfl rfl) ?_
              refine TZ_each [1, 18] (by kernel_rfl) rfl ?_
              refine ⟨?_, ?_⟩
              · refine ⟨_, rfl, ?_⟩
                refine TL_pure rfl rfl rfl rfl (op_load_one ag26 rfl rfl) ?_
                refine TL_nil ?_
                refine TZ_one 18 (by kernel_rfl) rfl ?_
                refine TL_pure rfl rfl rfl rfl (op_load_one ag2 rfl rfl) ?_
                refine TL_nil ?_
                refine TZ_pure 19 (by kernel_rfl) rfl rfl rfl rfl rfl (op_mulW rfl rfl) ?_
                refine TZ_pure 20 (by kernel_rfl) rfl rfl rfl rfl rfl (op_addW rfl rfl) ?_
                refine TZ_one 21 (by kernel_rfl) rfl ?_
                refine TL_buildSlice 291 (es := List.map a_i64 [(w64 ((w64 (q40 * x75)) + (w64 (q37 * x84))))]) el26 z2 rfl rfl rfl rfl rfl rfl rfl rfl rfl ?_
                refine TL_nil ?_
                refine TZ_one 22 (by kernel_rfl) rfl ?_
                refine TL_appendT (f := a_i64) (a := s0.2.1) (b := [(w64 ((w64 (q40 * x75)) + (w64 (q37 * x84))))]) el26 z2 rfl rfl rfl rfl rfl rfl rfl (capI_spec hq89) rfl rfl rfl rfl rfl ?_
                refine TL_nil ?_
                refine TZ_pure 23 (by kernel_rfl) rfl rfl rfl rfl rfl (op_fieldAddr fa91_1 rfl rfl) ?_
                refine TZ_one 24 (by kernel_rfl) rfl ?_
                refine TL_store_box sz26 rfl rfl rfl rfl rfl rfl rfl rfl rfl ?_
                refine TL_nil ?_
                refine TZ_done (by kernel_rfl) ?_
                refine T_keepH [0, 1, 6, 8, 9, 10, 11, 12] [11, 15, 19] rfl rfl rfl rfl (by rw [hF]; rfl) ?_
                exact hj0 (s0.2.1 ++ [(w64 ((w64 (q40 * x75)) + (w64 (q37 * x84))))]) hm
              · refine ⟨_, rfl, ?_⟩
                refine TL_pure rfl rfl rfl rfl (op_load_one ag2 rfl rfl) ?_
                refine TL_nil ?_
                refine TZ_pure 19 (by kernel_rfl) rfl rfl rfl rfl rfl (op_mulW rfl rfl) ?_
                refine TZ_pure 20 (by kernel_rfl) rfl rfl rfl rfl rfl (op_addW rfl rfl) ?_
                refine TZ_each [1, 21] (by kernel_rfl) rfl ?_
                refine ⟨?_, ?_⟩
                · refine ⟨_, rfl, ?_⟩
                  refine TL_pure rfl rfl rfl rfl (op_load_one ag26 rfl rfl) ?_
                  refine TL_nil ?_
                  refine TZ_one 21 (by kernel_rfl) rfl ?_
                  refine TL_buildSlice 293 (es := List.map a_i64 [(w64 ((w64 (q40 * x75)) + (w64 (q37 * x84))))]) el26 z2 rfl rfl rfl rfl rfl rfl rfl rfl rfl ?_
                  refine TL_nil ?_
                  refine TZ_one 22 (by kernel_rfl) rfl ?_
                  refine TL_appendT (f := a_i64) (a := s0.2.1) (b := [(w64 ((w64 (q40 * x75)) + (w64 (q37 * x84))))]) el26 z2 rfl rfl rfl rfl rfl rfl rfl (capI_spec hq89) rfl rfl rfl rfl rfl ?_
                  refine TL_nil ?_
                  refine TZ_pure 23 (by kernel_rfl) rfl rfl rfl rfl rfl (op_fieldAddr fa91_1 rfl rfl) ?_
                  refine TZ_one 24 (by kernel_rfl) rfl ?_
                  refine TL_store_box sz26 rfl rfl rfl rfl rfl rfl rfl rfl rfl ?_
                  refine TL_nil ?_
                  refine TZ_done (by kernel_rfl) ?_
                  refine T_keepH [0, 1, 6, 8, 9, 10, 11, 12] [11, 15, 19] rfl rfl rfl rfl (by rw [hF]; rfl) ?_
                  exact hj0 (s0.2.1 ++ [(w64 ((w64 (q40 * x75)) + (w64 (q37 * x84))))]) hm
                · refine ⟨_, rfl, ?_⟩
                  refine TL_buildSlice 292 (es := List.map a_i64 [(w64 ((w64 (q40 * x75)) + (w64 (q37 * x84))))]) el26 z2 rfl rfl rfl rfl rfl rfl rfl rfl rfl ?_
                  refine TL_nil ?_
                  refine TZ_pure 1 (by kernel_rfl) rfl rfl rfl rfl rfl (op_load_one ag26 rfl rfl) ?_
                  refine TZ_one 22 (by kernel_rfl) rfl ?_
                  refine TL_appendT (f := a_i64) (a := s0.2.1) (b := [(w64 ((w64 (q40 * x75)) + (w64 (q37 * x84))))]) el26 z2 rfl rfl rfl rfl rfl rfl rfl (capI_spec hq89) rfl rfl rfl rfl rfl ?_
                  refine TL_nil ?_
                  refine TZ_pure 23 (by kernel_rfl) rfl rfl rfl rfl rfl (op_fieldAddr fa91_1 rfl rfl) ?_
                  refine TZ_one 24 (by kernel_rfl) rfl ?_
                  refine TL_store_box sz26 rfl rfl rfl rfl rfl rfl rfl rfl rfl ?_
                  refine TL_nil ?_
                  refine TZ_done (by kernel_rfl) ?_
                  refine T_keepH [0, 1, 6, 8, 9, 10, 11, 12] [11, 15, 19] rfl rfl rfl rfl (by rw [hF]; rfl) ?_
                  exact hj0 (s0.2.1 ++ [(w64 ((w64 (q40 * x75)) + (w64 (q37 * x84))))]) hm
            · refine ⟨_, rfl, ?_⟩
              refine TL_pure rfl rfl rfl rfl (op_load_one ag2 rfl rfl) ?_
              refine TL_nil ?_
              refine TZ_pure 19 (by kernel_rfl) rfl rfl rfl rfl rfl (op_mulW rfl rfl) ?_
              refine TZ_each [1, 9] (by kernel_rfl) rfl ?_
              refine ⟨?_, ?_⟩
              · refine ⟨_, rfl, ?_⟩
                refine TL_pure rfl rfl rfl rfl (op_load_one ag26 rfl rfl) ?_
                refine TL_nil ?_
                refine TZ_one 9 (by kernel_rfl) rfl ?_
                refine TL_pure rfl rfl rfl rfl (op_load_one ag2 rfl rfl) ?_
                refine TL_nil ?_
                refine TZ_pure 10 (by kernel_rfl) rfl rfl rfl rfl rfl (op_mulW rfl rfl) ?_
                refine TZ_pure 20 (by kernel_rfl) rfl rfl rfl rfl rfl (op_addW rfl rfl) ?_
                refine TZ_one 21 (by kernel_rfl) rfl ?_
                refine TL_buildSlice 294 (es := List.map a_i64 [(w64 ((w64 (q40 * x75)) + (w64 (q37 * x84))))]) el26 z2 rfl rfl rfl rfl rfl rfl rfl rfl rfl ?_
                refine TL_nil ?_
                refine TZ_one 22 (by kernel_rfl) rfl ?_
                refine TL_appendT (f := a_i64) (a := s0.2.1) (b := [(w64 ((w64 (q40 * x75)) + (w64 (q37 * x84))))]) el26 z2 rfl rfl rfl rfl rfl rfl rfl (capI_spec hq89) rfl rfl rfl rfl rfl ?_
                refine TL_nil ?_
                refine TZ_pure 23 (by kernel_rfl) rfl rfl rfl rfl rfl (op_fieldAddr fa91_1 rfl rfl) ?_
                refine TZ_one 24 (by kernel_rfl) rfl ?_
                refine TL_store_box sz26 rfl rfl rfl rfl rfl rfl rfl rfl rfl ?_
                refine TL_nil ?_
                refine TZ_done (by kernel_rfl) ?_
                refine T_keepH [0, 1, 6, 8, 9, 10, 11, 12] [11, 15, 19] rfl rfl rfl rfl (by rw [hF]; rfl) ?_
                exact hj0 (s0.2.1 ++ [(w64 ((w64 (q40 * x75)) + (w64 (q37 * x84))))]) hm
              · refine ⟨_, rfl, ?_⟩
                refine TL_pure rfl rfl rfl rfl (op_load_one ag2 rfl rfl) ?_
                refine TL_nil ?_
                refine TZ_pure 10 (by kernel_rfl) rfl rfl rfl rfl rfl (op_mulW rfl rfl) ?_
                refine TZ_pure 20 (by kernel_rfl) rfl rfl rfl rfl rfl (op_addW rfl rfl) ?_
                refine TZ_each [1, 21] (by kernel_rfl) rfl ?_
                refine ⟨?_, ?_⟩
                · refine ⟨_, rfl, ?_⟩
                  refine TL_pure rfl rfl rfl rfl (op_load_one ag26 rfl rfl) ?_
                  refine TL_nil ?_
                  refine TZ_one 21 (by kernel_rfl) rfl ?_
                  refine TL_buildSlice 296 (es := List.map a_i64 [(w64 ((w64 (q40 * x75)) + (w64 (q37 * x84))))]) el26 z2 rfl rfl rfl rfl rfl rfl rfl rfl rfl ?_
                  refine TL_nil ?_
                  refine TZ_one 22 (by kernel_rfl) rfl ?_
                  refine TL_appendT (f := a_i64) (a := s0.2.1) (b := [(w64 ((w64 (q40 * x75)) + (w64 (q37 * x84))))]) el26 z2 rfl rfl rfl rfl rfl rfl rfl (capI_spec hq89) rfl rfl rfl rfl rfl ?_
                  refine TL_nil ?_
                  refine TZ_pure 23 (by kernel_rfl) rfl rfl rfl rfl rfl (op_fieldAddr fa91_1 rfl rfl) ?_
                  refine TZ_one 24 (by kernel_rfl) rfl ?_
                  refine TL_store_box sz26 rfl rfl rfl rfl rfl rfl rfl rfl rfl ?_
                  refine TL_nil ?_
                  refine TZ_done (by kernel_rfl) ?_
                  refine T_keepH [0, 1, 6, 8, 9, 10, 11, 12] [11, 15, 19] rfl rfl rfl rfl (by rw [hF]; rfl) ?_
                  exact hj0 (s0.2.1 ++ [(w64 ((w64 (q40 * x75)) + (w64 (q37 * x84))))]) hm
                · refine ⟨_, rfl, ?_⟩
                  refine TL_buildSlice 295 (es := List.map a_i64 [(w64 ((w64 (q40 * x75)) + (w64 (q37 * x84))))]) el26 z2 rfl rfl rfl rfl rfl rfl rfl rfl rfl ?_
                  refine TL_nil ?_
                  refine TZ_pure 1 (by kernel_rfl) rfl rfl rfl rfl rfl (op_load_one ag26 rfl rfl) ?_
                  refine TZ_one 22 (by kernel_rfl) rfl ?_
                  refine TL_appendT (f := a_i64) (a := s0.2.1) (b := [(w64 ((w64 (q40 * x75)) + (w64 (q37 * x84))))]) el26 z2 rfl rfl rfl rfl rfl rfl rfl (capI_spec hq89) rfl rfl rfl rfl rfl ?_
                  refine TL_nil ?_
                  refine TZ_pure 23 (by kernel_rfl) rfl rfl rfl rfl rfl (op_fieldAddr fa91_1 rfl rfl) ?_
                  refine TZ_one 24 (by kernel_rfl) rfl ?_
                  refine TL_store_box sz26 rfl rfl rfl rfl rfl rfl rfl rfl rfl ?_
                  refine TL_nil ?_
                  refine TZ_done (by kernel_rfl) ?_
                  refine T_keepH [0, 1, 6, 8, 9, 10, 11, 12] [11, 15, 19] rfl rfl rfl rfl (by rw [hF]; rfl) ?_
                  exact hj0 (s0.2.1 ++ [(w64 ((w64 (q40 * x75)) + (w64 (q37 * x84))))]) hm
        · refine ⟨_, rfl, ?_⟩
          refine TL_pure rfl rfl rfl rfl (op_load_one ag26 rfl rfl) ?_
          refine TL_nil ?_
          refine TZ_pure 17 (by kernel_rfl) rfl rfl rfl rfl rfl (op_indexT el26 rfl rfl hx84 rfl) ?_
          refine TZ_each [1, 6, 18] (by kernel_rfl) rfl ?_
          refine ⟨?_, ?_, ?_⟩
          · refine ⟨_, rfl, ?_⟩
            refine TL_pure rfl rfl rfl rfl (op_load_one ag26 rfl rfl) ?_
            refine TL_nil ?_
            refine TZ_each [6, 18] (by kernel_rfl) rfl ?_
            refine ⟨?_, ?_⟩
            · refine ⟨_, rfl, ?_⟩
              refine TL_pure rfl rfl rfl rfl (op_load_one ag26 rfl rfl) ?_
              refine TL_nil ?_
              refine TZ_pure 8 (by kernel_rfl) rfl rfl rfl rfl rfl (op_indexT el26 rfl rfl hx75 rfl) ?_
              refine TZ_each [9, 18] (by kernel_rfl) rfl ?_
              refine ⟨?_, ?_⟩
              · refine ⟨_, rfl, ?_⟩
                refine TL_pure rfl rfl rfl rfl (op_load_one ag2 rfl rfl) ?_
                refine TL_nil ?_
                refine TZ_pure 10 (by kernel_rfl) rfl rfl rfl rfl rfl (op_mulW rfl rfl) ?_
                refine TZ_one 18 (by kernel_rfl) rfl ?_
                refine TL_pure rfl rfl rfl rfl (op_load_one ag2 rfl rfl) ?_
                refine TL_nil ?_
                refine TZ_pure 19 (by kernel_rfl) rfl rfl rfl rfl rfl (op_mulW rfl rfl) ?_
                refine TZ_pure 20 (by kernel_rfl) rfl rfl rfl rfl rfl (op_addW rfl rfl) ?_
                refine TZ_one 21 (by kernel_rfl) rfl ?_
                refine TL_buildSlice 297 (es := List.map a_i64 [(w64 ((w64 (q40 * x75)) + (w64 (q37 * x84))))]) el26 z2 rfl rfl rfl rfl rfl rfl rfl rfl rfl ?_
                refine TL_nil ?_
                refine TZ_one 22 (by kernel_rfl) rfl ?_
                refine TL_appendT (f := a_i64) (a := s0.2.1) (b := [(w64 ((w64 (q40 * x75)) + (w64 (q37 * x84))))]) el26 z2 rfl rfl rfl rfl rfl rfl rfl (capI_spec hq89) rfl rfl rfl rfl rfl ?_
                refine TL_nil ?_
                refine TZ_pure 23 (by kernel_rfl) rfl rfl rfl rfl rfl (op_fieldAddr fa91_1 rfl rfl) ?_
                refine TZ_one 24 (by kernel_rfl) rfl ?_
                refine TL_store_box sz26 rfl rfl rfl rfl rfl rfl rfl rfl rfl ?_
                refine TL_nil ?_
                refine TZ_done (by kernel_rfl) ?_
                refine T_keepH [0, 1, 6, 8, 9, 10, 11, 12] [11, 15, 19] rfl rfl rfl rfl (by rw [hF]; rfl) ?_
                exact hj0 (s0.2.1 ++ [(w64 ((w64 (q40 * x75)) + (w64 (q37 * x84))))]) hm
              · refine ⟨_, rfl, ?_⟩
                refine TL_pure rfl rfl rfl rfl (op_load_one ag2 rfl rfl) ?_
                refine TL_nil ?_
                refine TZ_pure 19 (by kernel_rfl) rfl rfl rfl rfl rfl (op_mulW rfl rfl) ?_
                refine TZ_one 9 (by kernel_rfl) rfl ?_
                refine TL_pure rfl rfl rfl rfl (op_load_one ag2 rfl rfl) ?_
                refine TL_nil ?_
                refine TZ_pure 10 (by kernel_rfl) rfl rfl rfl rfl rfl (op_mulW rfl rfl) ?_
                refine TZ_pure 20 (by kernel_rfl) rfl rfl rfl rfl rfl (op_addW rfl rfl) ?_
                refine TZ_one 21 (by kernel_rfl) rfl ?_
                refine TL_buildSlice 298 (es := List.map a_i64 [(w64 ((w64 (q40 * x75)) + (w64 (q37 * x84))))]) el26 z2 rfl rfl rfl rfl rfl rfl rfl rfl rfl ?_
                refine TL_nil ?_
                refine TZ_one 22 (by kernel_rfl) rfl ?_
                refine TL_appendT (f := a_i64) (a := s0.2.1) (b := [(w64 ((w64 (q40 * x75)) + (w64 (q37 * x84))))]) el26 z2 rfl rfl rfl rfl rfl rfl rfl (capI_spec hq89) rfl rfl rfl rfl rfl ?_
                refine TL_nil ?_
                refine TZ_pure 23 (by kernel_rfl) rfl rfl rfl rfl rfl (op_fieldAddr fa91_1 rfl rfl) ?_
                refine TZ_one 24 (by kernel_rfl) rfl ?_
                refine TL_store_box sz26 rfl rfl rfl rfl rfl rfl rfl rfl rfl ?_
                refine TL_nil ?_
                refine TZ_done (by kernel_rfl) ?_
                refine T_keepH [0, 1, 6, 8, 9, 10, 11, 12] [11, 15, 19] rfl rfl rfl rfl (by rw [hF]; rfl) ?_
                exact hj0 (s0.2.1 ++ [(w64 ((w64 (q40 * x75)) + (w64 (q37 * x84))))]) hm
            · refine ⟨_, rfl, ?_⟩
              refine TL_pure rfl rfl rfl rfl (op_load_one ag2 rfl rfl) ?_
              refine TL_nil ?_
              refine TZ_pure 19 (by kernel_rfl) rfl rfl rfl rfl rfl (op_mulW rfl rfl) ?_
              refine TZ_one 6 (by kernel_rfl) rfl ?_
              refine TL_pure rfl rfl rfl rfl (op_load_one ag26 rfl rfl) ?_
              refine TL_nil ?_
              refine TZ_pure 8 (by kernel_rfl) rfl rfl rfl rfl rfl (op_indexT el26 rfl rfl hx75 rfl) ?_
              refine TZ_one 9 (by kernel_rfl) rfl ?_
              refine TL_pure rfl rfl rfl rfl (op_load_one ag2 rfl rfl) ?_
              refine TL_nil ?_
              refine TZ_pure 10 (by kernel_rfl) rfl rfl rfl rfl rfl (op_mulW rfl rfl) ?_
              refine TZ_pure 20 (by kernel_rfl) rfl rfl rfl rfl rfl (op_addW rfl rfl) ?_
              refine TZ_one 21 (by kernel_rfl) rfl ?_
              refine TL_buildSlice 299 (es := List.map a_i64 [(w64 ((w64 (q40 * x75)) + (w64 (q37 * x84))))]) el26 z2 rfl rfl rfl rfl rfl rfl rfl rfl rfl ?_
              refine TL_nil ?_
              refine TZ_one 22 (by kernel_rfl) rfl ?_
              refine TL_appendT (f := a_i64) (a := s0.2.1) (b := [(w64 ((w64 (q40 * x75)) + (w64 (q37 * x84))))]) el26 z2 rfl rfl rfl rfl rfl rfl rfl (capI_spec hq89) rfl rfl rfl rfl rfl ?_
              refine TL_nil ?_
              refine TZ_pure 23 (by kernel_rfl) rfl rfl rfl rfl rfl (op_fieldAddr fa91_1 rfl rfl) ?_
              refine TZ_one 24 (by kernel_rfl) rfl ?_
              refine TL_store_box sz26 rfl rfl rfl rfl rfl rfl rfl rfl rfl ?_
              refine TL_nil ?_
              refine TZ_done (by kernel_rfl) ?_
              refine T_keepH [0, 1, 6, 8, 9, 10, 11, 12] [11, 15, 19] rfl rfl rfl rfl (by rw [hF]; rfl) ?_
              exact hj0 (s0.2.1 ++ [(w64 ((w64 (q40 * x75)) + (w64 (q37 * x84))))]) hm
          · refine ⟨_, rfl, ?_⟩
            refine TL_pure rfl rfl rfl rfl (op_load_one ag26 rfl rfl) ?_
            refine TL_nil ?_
            refine TZ_pure 8 (by kernel_rfl) rfl rfl rfl rfl rfl (op_indexT el26 rfl rfl hx75 rfl) ?_
            refine TZ_each [1, 9, 18] (by kernel_rfl) rfl ?_
            refine ⟨?_, ?_, ?_⟩
            · refine ⟨_, rfl, ?_⟩
              refine TL_pure rfl rfl rfl rfl (op_load_one ag26 rfl rfl) ?_
              refine TL_nil ?_
              refine TZ_each [9, 18] (by kernel_rfl) rfl ?_
              refine ⟨?_, ?_⟩
              · refine ⟨_, rfl, ?_⟩
                refine TL_pure rfl rfl rfl rfl (op_load_one ag2 rfl rfl) ?_
                refine TL_nil ?_
                refine TZ_pure 10 (by kernel_rfl) rfl rfl rfl rfl rfl (op_mulW rfl rfl) ?_
                refine TZ_one 18 (by kernel_rfl) rfl ?_
                refine TL_pure rfl rfl rfl rfl (op_load_one ag2 rfl rfl) ?_
                refine TL_nil ?_
                refine TZ_pure 19 (by kernel_rfl) rfl rfl rfl rfl rfl (op_mulW rfl rfl) ?_
                refine TZ_pure 20 (by kernel_rfl) rfl rfl rfl rfl rfl (op_addW rfl rfl) ?_
                refine TZ_one 21 (by kernel_rfl) rfl ?_
                refine TL_buildSlice 300 (es := List.map a_i64 [(w64 ((w64 (q40 * x75)) + (w64 (q37 * x84))))]) el26 z2 rfl rfl rfl rfl rfl rfl rfl rfl rfl ?_
                refine TL_nil ?_
                refine TZ_one 22 (by kernel_rfl) rfl ?_
                refine TL_appendT (f := a_i64) (a := s0.2.1) (b := [(w64 ((w64 (q40 * x75)) + (w64 (q37 * x84))))]) el26 z2 rfl rfl rfl rfl rfl rfl rfl (capI_spec hq89) rfl rfl rfl rfl rfl ?_
                refine TL_nil ?_
                refine TZ_pure 23 (by kernel_rfl) rfl rfl rfl rfl rfl (op_fieldAddr fa91_1 rfl rfl) ?_
                refine TZ_one 24 (by kernel_rfl) rfl ?_
                refine TL_store_box sz26 rfl rfl rfl rfl rfl rfl rfl rfl rfl ?_
                refine TL_nil ?_
                refine TZ_done (by kernel_rfl) ?_
                refine T_keepH [0, 1, 6, 8, 9, 10, 11, 12] [11, 15, 19] rfl rfl rfl rfl (by rw [hF]; rfl) ?_
                exact hj0 (s0.2.1 ++ [(w64 ((w64 (q40 * x75)) + (w64 (q37 * x84))))]) hm
              · refine ⟨_, rfl, ?_⟩
                refine TL_pure rfl rfl rfl rfl (op_load_one ag2 rfl rfl) ?_
                refine TL_nil ?_
                refine TZ_pure 19 (by kernel_rfl) rfl rfl rfl rfl rfl (op_mulW rfl rfl) ?_
                refine TZ_one 9 (by kernel_rfl) rfl ?_
                refine TL_pure rfl rfl rfl rfl (op_load_one ag2 rfl rfl) ?_
                refine TL_nil ?_
                refine TZ_pure 10 (by kernel_rfl) rfl rfl rfl rfl rfl (op_mulW rfl rfl) ?_
                refine TZ_pure 20 (by kernel_rfl) rfl rfl rfl rfl rfl (op_addW rfl rfl) ?_
                refine TZ_one 21 (by kernel_rfl) rfl ?_
                refine TL_buildSlice 301 (es := List.map a_i64 [(w64 ((w64 (q40 * x75)) + (w64 (q37 * x84))))]) el26 z2 rfl rfl rfl rfl rfl rfl rfl rfl rfl ?_
                refine TL_nil ?_
                refine TZ_one 22 (by kernel_rfl) rfl ?_
                refine TL_appendT (f := a_i64) (a := s0.2.1) (b := [(w64 ((w64 (q40 * x75)) + (w64 (q37 * x84))))]) el26 z2 rfl rfl rfl rfl rfl rfl rfl (capI_spec hq89) rfl rfl rfl rfl rfl ?_
                refine TL_nil ?_
                refine TZ_pure 23 (by kernel_rfl) rfl rfl rfl rfl rfl (op_fieldAddr fa91_1 rfl rfl) ?_
                refine TZ_one 24 (by kernel_rfl) rfl ?_
                refine TL_store_box sz26 rfl rfl rfl rfl rfl rfl rfl rfl rfl ?_
                refine TL_nil ?_
                refine TZ_done (by kernel_rfl) ?_
                refine T_keepH [0, 1, 6, 8, 9, 10, 11, 12] [11, 15, 19] rfl rfl rfl rfl (by rw [hF]; rfl) ?_
                exact hj0 (s0.2.1 ++ [(w64 ((w64 (q40 * x75)) + (w64 (q37 * x84))))]) hm
            · refine ⟨_, rfl, ?_⟩
              refine TL_pure rfl rfl rfl rfl (op_load_one ag2 rfl rfl) ?_
              refine TL_nil ?_
              refine TZ_pure 10 (by kernel_rfl) rfl rfl rfl rfl rfl (op_mulW rfl rfl) ?_
              refine TZ_each [1, 18] (by kernel_rfl) rfl ?_
              refine ⟨?_, ?_⟩
              · refine ⟨_, rfl, ?_⟩
                refine TL_pure rfl rfl rfl rfl (op_load_one ag26 rfl rfl) ?_
                refine TL_nil ?_
                refine TZ_one 18 (by kernel_rfl) rfl ?_
                refine TL_pure rfl rfl rfl rfl (op_load_one ag2 rfl rfl) ?_
                refine TL_nil ?_
                refine TZ_pure 19 (by kernel_rfl) rfl rfl rfl rfl rfl (op_mulW rfl rfl) ?_
                refine TZ_pure 20 (by kernel_rfl) rfl rfl rfl rfl rfl (op_addW rfl rfl) ?_
                refine TZ_one 21 (by kernel_rfl) rfl ?_
                refine TL_buildSlice 302 (es := List.map a_i64 [(w64 ((w64 (q40 * x75)) + (w64 (q37 * x84))))]) el26 z2 rfl rfl rfl rfl rfl rfl rfl rfl rfl ?_
                refine TL_nil ?_
                refine TZ_one 22 (by kernel_rfl) rfl ?_
                refine TL_appendT (f := a_i64) (a := s0.2.1) (b := [(w64 ((w64 (q40 * x75)) + (w64 (q37 * x84))))]) el26 z2 rfl rfl rfl rfl rfl rfl rfl (capI_spec hq89) rfl rfl rfl rfl rfl ?_
                refine TL_nil ?_
                refine TZ_pure 23 (by kernel_rfl) rfl rfl rfl rfl rfl (op_fieldAddr fa91_1 rfl rfl) ?_
                refine TZ_one 24 (by kernel_rfl) rfl ?_
                refine TL_store_box sz26 rfl rfl rfl rfl rfl rfl rfl rfl rfl ?_
                refine TL_nil ?_
                refine TZ_done (by kernel_rfl) ?_
                refine T_keepH [0, 1, 6, 8, 9, 10, 11, 12] [11, 15, 19] rfl rfl rfl rfl (by rw [hF]; rfl) ?_
                exact hj0 (s0.2.1 ++ [(w64 ((w64 (q40 * x75)) + (w64 (q37 * x84))))]) hm
              · refine ⟨_, rfl, ?_⟩
                refine TL_pure rfl rfl rfl rfl (op_load_one ag2 rfl rfl) ?_
                refine TL_nil ?_
                refine TZ_pure 19 (by kernel_rfl) rfl rfl rfl rfl rfl (op_mulW rfl rfl) ?_
                refine TZ_pure 20 (by kernel_rfl) rfl rfl rfl rfl rfl (op_addW rfl rfl) ?_
                refine TZ_each [1, 21] (by kernel_rfl) rfl ?_
                refine ⟨?_, ?_⟩
                · refine ⟨_, rfl, ?_⟩
                  refine TL_pure rfl rfl rfl rfl (op_load_one ag26 rfl rfl) ?_
                  refine TL_nil ?_
                  refine TZ_one 21 (by kernel_rfl) rfl ?_
                  refine TL_buildSlice 304 (es := List.map a_i64 [(w64 ((w64 (q40 * x75)) + (w64 (q37 * x84))))]) el26 z2 rfl rfl rfl rfl rfl rfl rfl rfl rfl ?_
                  refine TL_nil ?_
                  refine TZ_one 22 (by kernel_rfl) rfl ?_
                  refine TL_appendT (f := a_i64) (a := s0.2.1) (b := [(w64 ((w64 (q40 * x75)) + (w64 (q37 * x84))))]) el26 z2 rfl rfl rfl rfl rfl rfl rfl (capI_spec hq89) rfl rfl rfl rfl rfl ?_
                  refine TL_nil ?_
                  refine TZ_pure 23 (by kernel_rfl) rfl rfl rfl rfl rfl (op_fieldAddr fa91_1 rfl rfl) ?_
                  refine TZ_one 24 (by kernel_rfl) rfl ?_
                  refine TL_store_box sz26 rfl rfl rfl rfl rfl rfl rfl rfl rfl ?_
                  refine TL_nil ?_
                  refine TZ_done (by kernel_rfl) ?_
                  refine T_keepH [0, 1, 6, 8, 9, 10, 11, 12] [11, 15, 19] rfl rfl rfl rfl (by rw [hF]; rfl) ?_
                  exact hj0 (s0.2.1 ++ [(w64 ((w64 (q40 * x75)) + (w64 (q37 * x84))))]) hm
                · refine ⟨_, rfl, ?_⟩
                  refine TL_buildSlice 303 (es := List.map a_i64 [(w64 ((w64 (q40 * x75)) + (w64 (q37 * x84))))]) el26 z2 rfl rfl rfl rfl rfl rfl rfl rfl rfl ?_
                  refine TL_nil ?_
                  refine TZ_pure 1 (by kernel_rfl) rfl rfl rfl rfl rfl (op_load_one ag26 rfl rfl) ?_
                  refine TZ_one 22 (by kernel_rfl) rfl ?_
                  refine TL_appendT (f := a_i64) (a := s0.2.1) (b := [(w64 ((w64 (q40 * x75)) + (w64 (q37 * x84))))]) el26 z2 rfl rfl rfl rfl rfl rfl rfl (capI_spec hq89) rfl rfl rfl rfl rfl ?_
                  refine TL_nil ?_
                  refine TZ_pure 23 (by kernel_rfl) rfl rfl rfl rfl rfl (op_fieldAddr fa91_1 rfl rfl) ?_
                  refine TZ_one 24 (by kernel_rfl) rfl ?_
                  refine TL_store_box sz26 rfl rfl rfl rfl rfl rfl rfl rfl rfl ?_
                  refine TL_nil ?_
                  refine TZ_done (by kernel_rfl) ?_
                  refine T_keepH [0, 1, 6, 8, 9, 10, 11, 12] [11, 15, 19] rfl rfl rfl rfl (by rw [hF]; rfl) ?_
                  exact hj0 (s0.2.1 ++ [(w64 ((w64 (q40 * x75)) + (w64 (q37 * x84))))]) hm
            · refine ⟨_, rfl, ?_⟩
              refine TL_pure rfl rfl rfl rfl (op_load_one ag2 rfl rfl) ?_
              refine TL_nil ?_
              refine TZ_pure 19 (by kernel_rfl) rfl rfl rfl rfl rfl (op_mulW rfl rfl) ?_
              refine TZ_each [1, 9] (by kernel_rfl) rfl ?_
              refine ⟨?_, ?_⟩
              · refine ⟨_, rfl, ?_⟩
                refine TL_pure rfl rfl rfl rfl (op_load_one ag26 rfl rfl) ?_
                refine TL_nil ?_
                refine TZ_one 9 (by kernel_rfl) rfl ?_
                refine TL_pure rfl rfl rfl rfl (op_load_one ag2 rfl rfl) ?_
                refine TL_nil ?_
                refine TZ_pure 10 (by kernel_rfl) rfl rfl rfl rfl rfl (op_mulW rfl rfl) ?_
                refine TZ_pure 20 (by kernel_rfl) rfl rfl rfl rfl rfl (op_addW rfl rfl) ?_
                refine TZ_one 21 (by kernel_rfl) rfl ?_
                refine TL_buildSlice 305 (es := List.map a_i64 [(w64 ((w64 (q40 * x75)) + (w64 (q37 * x84))))]) el26 z2 rfl rfl rfl rfl rfl rfl rfl rfl rfl ?_
                refine TL_nil ?_
                refine TZ_one 22 (by kernel_rfl) rfl ?_
                refine TL_appendT (f := a_i64) (a := s0.2.1) (b := [(w64 ((w64 (q40 * x75)) + (w64 (q37 * x84))))]) el26 z2 rfl rfl rfl rfl rfl rfl rfl (capI_spec hq89) rfl rfl rfl rfl rfl ?_
                refine TL_nil ?_
                refine TZ_pure 23 (by kernel_rfl) rfl rfl rfl rfl rfl (op_fieldAddr fa91_1 rfl rfl) ?_
                refine TZ_one 24 (by kernel_rfl) rfl ?_
                refine TL_store_box sz26 rfl rfl rfl rfl rfl rfl rfl rfl rfl ?_
                refine TL_nil ?_
                refine TZ_done (by kernel_rfl) ?_
                refine T_keepH [0, 1, 6, 8, 9, 10, 11, 12] [11, 15, 19] rfl rfl rfl rfl (by rw [hF]; rfl) ?_
                exact hj0 (s0.2.1 ++ [(w64 ((w64 (q40 * x75)) + (w64 (q37 * x84))))]) hm
              · refine ⟨_, rfl, ?_⟩
                refine TL_pure rfl rfl rfl rfl (op_load_one ag2 rfl rfl) ?_
                refine TL_nil ?_
                refine TZ_pure 10 (by kernel_rfl) rfl rfl rfl rfl rfl (op_mulW rfl rfl) ?_
                refine TZ_pure 20 (by kernel_rfl) rfl rfl rfl rfl rfl (op_addW rfl rfl) ?_
                refine TZ_each [1, 21] (by kernel_rfl) rfl ?_
                refine ⟨?_, ?_⟩
                · refine ⟨_, rfl, ?_⟩
                  refine TL_pure rfl rfl rfl rfl (op_load_one ag26 rfl rfl) ?_
                  refine TL_nil ?_
                  refine TZ_one 21 (by kernel_rfl) rfl ?_
                  refine TL_buildSlice 307 (es := List.map a_i64 [(w64 ((w64 (q40 * x75)) + (w64 (q37 * x84))))]) el26 z2 rfl rfl rfl rfl rfl rfl rfl rfl rfl ?_
                  refine TL_nil ?_
                  refine TZ_one 22 (by kernel_rfl) rfl ?_
                  refine TL_appendT (f := a_i64) (a := s0.2.1) (b := [(w64 ((w64 (q40 * x75)) + (w64 (q37 * x84))))]) el26 z2 rfl rfl rfl rfl rfl rfl rfl (capI_spec hq89) rfl rfl rfl rfl rfl ?_
                  refine TL_nil ?_
                  refine TZ_pure 23 (by kernel_rfl) rfl rfl rfl rfl rfl (op_fieldAddr fa91_1 rfl rfl) ?_
                  refine TZ_one 24 (by kernel_rfl) rfl ?_
                  refine TL_store_box sz26 rfl rfl rfl rfl rfl rfl rfl rfl rfl ?_
                  refine TL_nil ?_
                  refine TZ_done (by kernel_rfl) ?_
                  refine T_keepH [0, 1, 6, 8, 9, 10, 11, 12] [11, 15, 19] rfl rfl rfl rfl (by rw [hF]; rfl) ?_
                  exact hj0 (s0.2.1 ++ [(w64 ((w64 (q40 * x75)) + (w64 (q37 * x84))))]) hm
                · refine ⟨_, rfl, ?_⟩
                  refine TL_buildSlice 306 (es := List.map a_i64 [(w64 ((w64 (q40 * x75)) + (w64 (q37 * x84))))]) el26 z2 rfl rfl rfl rfl rfl rfl rfl rfl rfl ?_
                  refine TL_nil ?_
                  refine TZ_pure 1 (by kernel_rfl) rfl rfl rfl rfl rfl (op_load_one ag26 rfl rfl) ?_
                  refine TZ_one 22 (by kernel_rfl) rfl ?_
                  refine TL_appendT (f := a_i64) (a := s0.2.1) (b := [(w64 ((w64 (q40 * x75)) + (w64 (q37 * x84))))]) el26 z2 rfl rfl rfl rfl rfl rfl rfl (capI_spec hq89) rfl rfl rfl rfl rfl ?_
                  refine TL_nil ?_
                  refine TZ_pure 23 (by kernel_rfl) rfl rfl rfl rfl rfl (op_fieldAddr fa91_1 rfl rfl) ?_
                  refine TZ_one 24 (by kernel_rfl) rfl ?_
                  refine TL_store_box sz26 rfl rfl rfl rfl rfl rfl rfl rfl rfl ?_
                  refine TL_nil ?_
                  refine TZ_done (by kernel_rfl) ?_
                  refine T_keepH [0, 1, 6, 8, 9, 10, 11, 12] [11, 15, 19] rfl rfl rfl rfl (by rw [hF]; rfl) ?_
                  exact hj0 (s0.2.1 ++ [(w64 ((w64 (q40 * x75)) + (w64 (q37 * x84))))]) hm
          · refine ⟨_, rfl, ?_⟩
            refine TL_pure rfl rfl rfl rfl (op_load_one ag2 rfl rfl) ?_
            refine TL_nil ?_
            refine TZ_pure 19 (by kernel_rfl) rfl rfl rfl rfl rfl (op_mulW rfl rfl) ?_
            refine TZ_each [1, 6] (by kernel_rfl) rfl ?_
            refine ⟨?_, ?_⟩
            · refine ⟨_, rfl, ?_⟩
              refine TL_pure rfl rfl rfl rfl (op_load_one ag26 rfl rfl) ?_
              refine TL_nil ?_
              refine TZ_one 6 (by kernel_rfl) rfl ?_
              refine TL_pure rfl rfl rfl rfl (op_load_one ag26 rfl rfl) ?_
              refine TL_nil ?_
              refine TZ_pure 8 (by kernel_rfl) rfl rfl rfl rfl rfl (op_indexT el26 rfl rfl hx75 rfl) ?_
              refine TZ_one 9 (by kernel_rfl) rfl ?_
              refine TL_pure rfl rfl rfl rfl (op_load_one ag2 rfl rfl) ?_
              refine TL_nil ?_
              refine TZ_pure 10 (by kernel_rfl) rfl rfl rfl rfl rfl (op_mulW rfl rfl) ?_
              refine TZ_pure 20 (by kernel_rfl) rfl rfl rfl rfl rfl (op_addW rfl rfl) ?_
              refine TZ_one 21 (by kernel_rfl) rfl ?_
              refine TL_buildSlice 308 (es := List.map a_i64 [(w64 ((w64 (q40 * x75)) + (w64 (q37 * x84))))]) el26 z2 rfl rfl rfl rfl rfl rfl rfl rfl rfl ?_
              refine TL_nil ?_
              refine TZ_one 22 (by kernel_rfl) rfl ?_
              refine TL_appendT (f := a_i64) (a := s0.2.1) (b := [(w64 ((w64 (q40 * x75)) + (w64 (q37 * x84))))]) el26 z2 rfl rfl rfl rfl rfl rfl rfl (capI_spec hq89) rfl rfl rfl rfl rfl ?_
              refine TL_nil ?_
              refine TZ_pure 23 (by kernel_rfl) rfl rfl rfl rfl rfl (op_fieldAddr fa91_1 rfl rfl) ?_
              refine TZ_one 24 (by kernel_rfl) rfl ?_
              refine TL_store_box sz26 rfl rfl rfl rfl rfl rfl rfl rfl rfl ?_
              refine TL_nil ?_
              refine TZ_done (by kernel_rfl) ?_
              refine T_keepH [0, 1, 6, 8, 9, 10, 11, 12] [11, 15, 19] rfl rfl rfl rfl (by rw [hF]; rfl) ?_
              exact hj0 (s0.2.1 ++ [(w64 ((w64 (q40 * x75)) + (w64 (q37 * x84))))]) hm
            · refine ⟨_, rfl, ?_⟩
              refine TL_pure rfl rfl rfl rfl (op_load_one ag26 rfl rfl) ?_
              refine TL_nil ?_
              refine TZ_pure 8 (by kernel_rfl) rfl rfl rfl rfl rfl (op_indexT el26 rfl rfl hx75 rfl) ?_
              refine TZ_each [1, 9] (by kernel_rfl) rfl ?_
              refine ⟨?_, ?_⟩
              · refine ⟨_, rfl, ?_⟩
                refine TL_pure rfl rfl rfl rfl (op_load_one ag26 rfl rfl) ?_
                refine TL_nil ?_
                refine TZ_one 9 (by kernel_rfl) rfl ?_
                refine TL_pure rfl rfl rfl rfl (op_load_one ag2 rfl rfl) ?_
                refine TL_nil ?_
                refine TZ_pure 10 (by kernel_rfl) rfl rfl rfl rfl rfl (op_mulW rfl rfl) ?_
                refine TZ_pure 20 (by kernel_rfl) rfl rfl rfl rfl rfl (op_addW rfl rfl) ?_
                refine TZ_one 21 (by kernel_rfl) rfl ?_
                refine TL_buildSlice 309 (es := List.map a_i64 [(w64 ((w64 (q40 * x75)) + (w64 (q37 * x84))))]) el26 z2 rfl rfl rfl rfl rfl rfl rfl rfl rfl ?_
                refine TL_nil ?_
                refine TZ_one 22 (by kernel_rfl) rfl ?_
                refine TL_appendT (f := a_i64) (a := s0.2.1) (b := [(w64 ((w64 (q40 * x75)) + (w64 (q37 * x84))))]) el26 z2 rfl rfl rfl rfl rfl rfl rfl (capI_spec hq89) rfl rfl rfl rfl rfl ?_
                refine TL_nil ?_
                refine TZ_pure 23 (by kernel_rfl) rfl rfl rfl rfl rfl (op_fieldAddr fa91_1 rfl rfl) ?_
                refine TZ_one 24 (by kernel_rfl) rfl ?_
                refine TL_store_box sz26 rfl rfl rfl rfl rfl rfl rfl rfl rfl ?_
                refine TL_nil ?_
                refine TZ_done (by kernel_rfl) ?_
                refine T_keepH [0, 1, 6, 8, 9, 10, 11, 12] [11, 15, 19] rfl rfl rfl rfl (by rw [hF]; rfl) ?_
                exact hj0 (s0.2.1 ++ [(w64 ((w64 (q40 * x75)) + (w64 (q37 * x84))))]) hm
              · refine ⟨_, rfl, ?_⟩
                refine TL_pure rfl rfl rfl rfl (op_load_one ag2 rfl rfl) ?_
                refine TL_nil ?_
                refine TZ_pure 10 (by kernel_rfl) rfl rfl rfl rfl rfl (op_mulW rfl rfl) ?_
                refine TZ_pure 20 (by kernel_rfl) rfl rfl rfl rfl rfl (op_addW rfl rfl) ?_
                refine TZ_each [1, 21] (by kernel_rfl) rfl ?_
                refine ⟨?_, ?_⟩
                · refine ⟨_, rfl, ?_⟩
                  refine TL_pure rfl rfl rfl rfl (op_load_one ag26 rfl rfl) ?_
                  refine TL_nil ?_
                  refine TZ_one 21 (by kernel_rfl) rfl ?_
                  refine TL_buildSlice 311 (es := List.map a_i64 [(w64 ((w64 (q40 * x75)) + (w64 (q37 * x84))))]) el26 z2 rfl rfl rfl rfl rfl rfl rfl rfl rfl ?_
                  refine TL_nil ?_
                  refine TZ_one 22 (by kernel_rfl) rfl ?_
                  refine TL_appendT (f := a_i64) (a := s0.2.1) (b := [(w64 ((w64 (q40 * x75)) + (w64 (q37 * x84))))]) el26 z2 rfl rfl rfl rfl rfl rfl rfl (capI_spec hq89) rfl rfl rfl rfl rfl ?_
                  refine TL_nil ?_
                  refine TZ_pure 23 (by kernel_rfl) rfl rfl rfl rfl rfl (op_fieldAddr fa91_1 rfl rfl) ?_
                  refine TZ_one 24 (by kernel_rfl) rfl ?_
                  refine TL_store_box sz26 rfl rfl rfl rfl rfl rfl rfl rfl rfl ?_
                  refine TL_nil ?_
                  refine TZ_done (by kernel_rfl) ?_
                  refine T_keepH [0, 1, 6, 8, 9, 10, 11, 12] [11, 15, 19] rfl rfl rfl rfl (by rw [hF]; rfl) ?_
                  exact hj0 (s0.2.1 ++ [(w64 ((w64 (q40 * x75)) + (w64 (q37 * x84))))]) hm
                · refine ⟨_, rfl, ?_⟩
                  refine TL_buildSlice 310 (es := List.map a_i64 [(w64 ((w64 (q40 * x75)) + (w64 (q37 * x84))))]) el26 z2 rfl rfl rfl rfl rfl rfl rfl rfl rfl ?_
                  refine TL_nil ?_
                  refine TZ_pure 1 (by kernel_rfl) rfl rfl rfl rfl rfl (op_load_one ag26 rfl rfl) ?_
                  refine TZ_one 22 (by kernel_rfl) rfl ?_
                  refine TL_appendT (f := a_i64) (a := s0.2.1) (b := [(w64 ((w64 (q40 * x75)) + (w64 (q37 * x84))))]) el26 z2 rfl rfl rfl rfl rfl rfl rfl (capI_spec hq89) rfl rfl rfl rfl rfl ?_
                  refine TL_nil ?_
                  refine TZ_pure 23 (by kernel_rfl) rfl rfl rfl rfl rfl (op_fieldAddr fa91_1 rfl rfl) ?_
                  refine TZ_one 24 (by kernel_rfl) rfl ?_
                  refine TL_store_box sz26 rfl rfl rfl rfl rfl rfl rfl rfl rfl ?_
                  refine TL_nil ?_
                  refine TZ_done (by kernel_rfl) ?_
                  refine T_keepH [0, 1, 6, 8, 9, 10, 11, 12] [11, 15, 19] rfl rfl rfl rfl (by rw [hF]; rfl) ?_
                  exact hj0 (s0.2.1 ++ [(w64 ((w64 (q40 * x75)) + (w64 (q37 * x84))))]) hm
    · replace hm := condF hq hm
      refine T_keepH [0, 1, 6, 8, 9, 10, 11] [11, 15, 19] rfl rfl rfl rfl (by rw [hF]; rfl) ?_
      refine T_exit ?_
      obtain rfl := someI hm
      have hn := CtlOK_out hc0
      exact hx0 (s0.1, s0.2.1) hn

theorem c_spec_l06Stage (p0 : List l06Row) (p1 : Int) (out : (List l06Row) × Int × Bool) (hm : m_spec_l06Stage p0 p1 = some out) : ACall Try.prog 58 [.sl 3 (List.map a_l06Row p0), .int .i64 p1] [] (.tup [.sl 3 (List.map a_l06Row out.1), .int .i64 out.2.1, .bool out.2.2]) [] := by
  refine ACall.intro Try.func58 rfl Try.ntmps58 rfl (fun F hF => ?_)
  unfold m_spec_l06Stage at hm
  refine T_seq ?_
  refine T_region ?_
  refine TL_pure rfl rfl rfl rfl (op_assign rfl) ?_
  refine TL_pure rfl rfl rfl rfl (op_assign rfl) ?_
  refine TL_pure rfl rfl rfl rfl (op_assign rfl) ?_
  refine TL_nil ?_
  refine T_seq ?_
  refine T_region ?_
  refine TL_buildSlice 11 (es := List.map a_l06Row ([] : List l06Row)) el84 z91 rfl rfl rfl rfl rfl rfl rfl rfl rfl ?_
  refine TL_pure rfl rfl rfl rfl (op_assign rfl) ?_
  refine TL_nil ?_
  refine T_seq ?_
  refine T_seq ?_
  refine T_region ?_
  refine TL_pure rfl rfl rfl rfl (op_assign rfl) ?_
  refine TL_nil ?_
  refine T_block ?_
  refine T_keepH [0, 1, 7, 8] [11] rfl rfl rfl rfl (by rw [hF]; rfl) ?_
  refine T_loop ?_
  obtain ⟨u0, hl0, hm⟩ := bindS hm
  refine TR_iter2 (m_spec_l06Stage_L0 p0 p1) (fun (s0 : (List l06Row) × Int) => ⟨[(0, .sl 3 (List.map a_l06Row p0)), (1, .int .i64 p1), (7, .ow 11), (8, .int .i64 s0.2)], [(11, .arr ⟨false, false⟩ 3 91 (List.map a_l06Row s0.1))]⟩) (fun u0 => .exit 0) (fun u0 => ⟨[(0, .sl 3 (List.map a_l06Row p0)), (1, .int .i64 p1), (7, .ow 11)], [(11, .arr ⟨false, false⟩ 3 91 (List.map a_l06Row u0))]⟩) (fun u0 => m_spec_l06Stage_A0 p0 p1 u0 = some out) hl0 hm (fun u0 hm => ?_) (fun hx0 s0 c0 hm hc0 => ?_)
  · unfold m_spec_l06Stage_A0 at hm
    refine T_seq ?_
    refine T_region ?_
    refine TL_pure rfl rfl rfl rfl (op_move rfl) ?_
    refine TL_pure rfl rfl rfl rfl (op_lenO Try.underlying84 rfl rfl (List.length_map _)) ?_
    refine TL_fact (fun _ _ _ hr => RelP.owLen (id := 11) rfl hr) (fun hlen38 => ?_)
    rw [List.length_map] at hlen38
    refine TL_pure rfl rfl rfl rfl (op_assign rfl) ?_
    refine TL_nil ?_
    refine T_seq ?_
    refine T_seq ?_
    refine T_region ?_
    refine TL_pure rfl rfl rfl rfl (op_assign rfl) ?_
    refine TL_nil ?_
    refine T_block ?_
    refine T_keepH [0, 1, 7, 9, 10] [11] rfl rfl rfl rfl (by rw [hF]; rfl) ?_
    refine T_loop ?_
    obtain ⟨u1, hl1, hm⟩ := bindS hm
    refine TR_iter2 (m_spec_l06Stage_L1 p0 p1) (fun (s1 : (List l06Row) × Int) => ⟨[(0, .sl 3 (List.map a_l06Row p0)), (1, .int .i64 p1), (7, .ow 11), (9, .int .i64 (u0.length : Int)), (10, .int .i64 s1.2)], [(11, .arr ⟨false, false⟩ 3 91 (List.map a_l06Row s1.1))]⟩) (fun u1 => match u1 with | .inl u1 => .exit 2 | .inr u1 => .ret) (fun u1 => match u1 with | .inl u1 => ⟨[(7, .ow 11), (9, .int .i64 (u0.length : Int))], [(11, .arr ⟨false, false⟩ 3 91 (List.map a_l06Row u1))]⟩ | .inr u1 => ⟨[(4, .sl 3 (List.map a_l06Row u1.1)), (5, .int .i64 u1.2.1), (6, .bool u1.2.2)], []⟩) (fun u1 => m_spec_l06Stage_A1 u0 u1 = some out) hl1 hm (fun u1 hm => ?_) (fun hx1 s1 c1 hm hc1 => ?_)
    · rcases u1 with u1 | u1
      · unfold m_spec_l06Stage_A1 at hm
        refine T_seq ?_
        refine T_region ?_
        refine TL_pure rfl rfl rfl rfl (op_move rfl) ?_
        refine TL_pure rfl rfl rfl rfl (op_move rfl) ?_
        refine TL_pure rfl rfl rfl rfl (op_assign rfl) ?_
        refine TL_pure rfl rfl rfl rfl (op_assign rfl) ?_
        refine TL_pure rfl rfl rfl rfl (op_assign rfl) ?_
        refine TL_nil ?_
        refine T_keepH [4, 5, 6] [11] rfl rfl rfl rfl (by rw [hF]; rfl) ?_
        refine T_freeze 11 (by rw [hF]; rfl) rfl rfl rfl ?_
        refine T_ret ?_
        obtain rfl := someI hm
        refine ⟨[_, _, _], [], ⟨rfl, rfl, rfl, trivial⟩, ?_, rfl, rfl, rfl, rfl⟩
        rfl
      · unfold m_spec_l06Stage_A1 at hm
        obtain rfl := someI hm
        refine ⟨[_, _, _], [], ⟨rfl, rfl, rfl, trivial⟩, ?_, rfl, rfl, rfl, rfl⟩
        rfl
    · unfold m_spec_l06Stage_L1 at hm
      refine T_seq ?_
      refine T_seq ?_
      refine T_region ?_
      refine TL_pure rfl rfl rfl rfl (op_move rfl) ?_
      refine TL_pure rfl rfl rfl rfl (op_move rfl) ?_
      refine TL_pure rfl rfl rfl rfl (op_lenT Try.underlying84 rfl (List.length_map _)) ?_
      refine TL_fact (fun _ _ _ hr => RelP.slLen (i := 40) rfl hr) (fun hlen41 => ?_)
      rw [List.length_map] at hlen41
      refine TL_pure rfl rfl rfl rfl (op_lss rfl rfl) ?_
      refine TL_nil ?_
      refine T_cond rfl (fun hq => ?_) (fun hq => ?_)
      · replace hm := condT hq hm
        refine T_skip ?_
        refine T_seq ?_
        refine T_block ?_
        refine T_seq ?_
        refine T_region ?_
        refine TL_pure rfl rfl rfl rfl (op_assign rfl) ?_
        refine TL_nil ?_
        refine T_block ?_
        refine T_keepH [0, 1, 7, 9, 10, 11] [11] rfl rfl rfl rfl (by rw [hF]; rfl) ?_
        refine T_loop ?_
        obtain ⟨u2, hl2, hm⟩ := bindS hm
        refine TR_iter2 (m_spec_l06Stage_L2 p0 p1 s1) (fun (s2 : (List l06Row) × Int) => ⟨[(0, .sl 3 (List.map a_l06Row p0)), (1, .int .i64 p1), (7, .ow 11), (9, .int .i64 (u0.length : Int)), (10, .int .i64 s1.2), (11, .int .i64 s2.2)], [(11, .arr ⟨false, false⟩ 3 91 (List.map a_l06Row s2.1))]⟩) (fun u2 => match u2 with | .inl u2 => .exit 4 | .inr u2 => .ret) (fun u2 => match u2 with | .inl u2 => ⟨[(0, .sl 3 (List.map a_l06Row p0)), (1, .int .i64 p1), (7, .ow 11), (9, .int .i64 (u0.length : Int)), (10, .int .i64 s1.2)], [(11, .arr ⟨false, false⟩ 3 91 (List.map a_l06Row u2))]⟩ | .inr u2 => ⟨[(4, .sl 3 (List.map a_l06Row u2.1)), (5, .int .i64 u2.2.1), (6, .bool u2.2.2)], []⟩) (fun u2 => m_spec_l06Stage_A2 s1 u2 = some c1) hl2 hm (fun u2 hm => ?_) (fun hx2 s2 c2 hm hc2 => ?_)
        · rcases u2 with u2 | u2
          · unfold m_spec_l06Stage_A2 at hm
            refine T_region ?_
            refine TL_pure rfl rfl rfl rfl (op_move rfl) ?_
            refine TL_pure rfl rfl rfl rfl (op_addW rfl rfl) ?_
            refine TL_pure rfl rfl rfl rfl (op_assign rfl) ?_
            refine TL_nil ?_
            refine TR_keepH [0, 1, 7, 9, 10] [11] rfl rfl rfl rfl (by rw [hF]; rfl) ?_
            obtain rfl := someI hm
            have hn := CtlOK_next hc1
            exact hn _ rfl
          · unfold m_spec_l06Stage_A2 at hm
            obtain rfl := someI hm
            have hn := CtlOK_out hc1
            exact hx1 (.inr (u2.1, u2.2.1, u2.2.2)) hn
        · unfold m_spec_l06Stage_L2 at hm
          refine T_seq ?_
          refine T_seq ?_
          refine T_region ?_
          refine TL_pure rfl rfl rfl rfl (op_move rfl) ?_
          refine TL_pure rfl rfl rfl rfl (op_move rfl) ?_
          refine TL_pure rfl rfl rfl rfl (op_lenT Try.underlying84 rfl (List.length_map _)) ?_
          refine TL_pure rfl rfl rfl rfl (op_lss rfl rfl) ?_
          refine TL_nil ?_
          refine T_cond rfl (fun hq => ?_) (fun hq => ?_)
          · replace hm := condT hq hm
            refine T_skip ?_
            refine T_seq ?_
            refine T_block ?_
            refine T_seq ?_
            refine T_seq ?_
            refine T_region ?_
            refine TL_pure rfl rfl rfl rfl (op_move rfl) ?_
            refine TL_pure rfl rfl rfl rfl (op_move rfl) ?_
            obtain ⟨x53, hx53, hm⟩ := bindS hm
            refine TL_pure rfl rfl rfl rfl (op_indexT el84 rfl rfl hx53 rfl) ?_
            refine TL_pure rfl rfl rfl rfl (op_fieldAddrC (n := 1) fa91_1 rfl rfl rfl) ?_
            refine TL_pure rfl rfl rfl rfl (op_load_one ag26 rfl rfl) ?_
            refine TL_pure rfl rfl rfl rfl (op_move rfl) ?_
            obtain ⟨x57, hx57, hm⟩ := bindS hm
            refine TL_pure rfl rfl rfl rfl (op_indexT el26 rfl rfl hx57 rfl) ?_
            refine TL_pure rfl rfl rfl rfl (op_load_one ag2 rfl rfl) ?_
            refine TL_pure rfl rfl rfl rfl (op_leq rfl rfl) ?_
            refine TL_pure rfl rfl rfl rfl (op_move rfl) ?_
            refine TL_split 60 rfl rfl rfl (fun hq => ?_) (fun hq => ?_)
            · replace hm := condT hq hm
              refine TL_pass rfl rfl rfl rfl rfl rfl rfl ?_
              refine TL_pass rfl rfl rfl rfl rfl rfl rfl ?_
              refine TL_pass rfl rfl rfl rfl rfl rfl rfl ?_
              refine TL_pass rfl rfl rfl rfl rfl rfl rfl ?_
              refine TL_pass rfl rfl rfl rfl rfl rfl rfl ?_
              refine TL_pass rfl rfl rfl rfl rfl rfl rfl ?_
              refine TL_pass rfl rfl rfl rfl rfl rfl rfl ?_
              refine TL_pass rfl rfl rfl rfl rfl rfl rfl ?_
              refine TL_pass rfl rfl rfl rfl rfl rfl rfl ?_
              refine TL_pure rfl rfl rfl rfl (op_pick_true rfl rfl) ?_
              refine TL_nil ?_
              refine T_cond_true rfl ?_
              refine T_exit ?_
              refine T_region ?_
              refine TL_pure rfl rfl rfl rfl (op_move rfl) ?_
              refine TL_pure rfl rfl rfl rfl (op_addW rfl rfl) ?_
              refine TL_pure rfl rfl rfl rfl (op_assign rfl) ?_
              refine TL_nil ?_
              refine TR_keepH [0, 1, 7, 9, 10, 11] [11] rfl rfl rfl rfl (by rw [hF]; rfl) ?_
              obtain rfl := someI hm
              have hn := CtlOK_next hc2
              exact hn _ rfl
            · replace hm := condF hq hm
              refine TL_want rfl rfl ?_
              refine TL_pure rfl rfl rfl rfl (op_move rfl) ?_
              refine TL_want rfl rfl ?_
              refine TL_pure rfl rfl rfl rfl (op_move rfl) ?_
              refine TL_want rfl rfl ?_
              obtain ⟨x63, hx63, hm⟩ := bindS hm
              refine TL_pure rfl rfl rfl rfl (op_indexT el84 rfl rfl hx63 rfl) ?_
              refine TL_want rfl rfl ?_
              refine TL_pure rfl rfl rfl rfl (op_fieldAddrC (n := 1) fa91_1 rfl rfl rfl) ?_
              refine TL_want rfl rfl ?_
              refine TL_pure rfl rfl rfl rfl (op_load_one ag26 rfl rfl) ?_
              refine TL_want rfl rfl ?_
              refine TL_pure rfl rfl rfl rfl (op_move rfl) ?_
              refine TL_want rfl rfl ?_
              obtain ⟨x67, hx67, hm⟩ := bindS hm
              refine TL_pure rfl rfl rfl rfl (op_indexT el26 rfl rfl hx67 rfl) ?_
              refine TL_want rfl rfl ?_
              refine TL_pure rfl rfl rfl rfl (op_load_one ag2 rfl rfl) ?_
              refine TL_want rfl rfl ?_
              refine TL_pure rfl rfl rfl rfl (op_geq rfl rfl) ?_
              refine TL_pure rfl rfl rfl rfl (op_pick_false rfl rfl) ?_
              refine TL_nil ?_
              refine T_cond rfl (fun hq => ?_) (fun hq => ?_)
              · replace hm := condT hq hm
                refine T_exit ?_
                refine T_region ?_
                refine TL_pure rfl rfl rfl rfl (op_move rfl) ?_
                refine TL_pure rfl rfl rfl rfl (op_addW rfl rfl) ?_
                refine TL_pure rfl rfl rfl rfl (op_assign rfl) ?_
                refine TL_nil ?_
                refine TR_keepH [0, 1, 7, 9, 10, 11] [11] rfl rfl rfl rfl (by rw [hF]; rfl) ?_
                obtain rfl := someI hm
                have hn := CtlOK_next hc2
                exact hn _ rfl
              · replace hm := condF hq hm
                refine T_skip ?_
                refine T_join (fun (j0 : Int × (List Int) × (List Int) × Bool) => ⟨[(0, .sl 3 (List.map a_l06Row p0)), (1, .int .i64 p1), (7, .ow 11), (9, .int .i64 (u0.length : Int)), (10, .int .i64 s1.2), (11, .int .i64 s2.2), (12, .ptr 173 0 0), (13, .bool j0.2.2.2), (61, .sl 3 (List.map a_l06Row p0)), (62, .int .i64 s2.2), (63, .cp [.int .i64 x63.c, .sl 1 (List.map a_i64 x63.list), .sl 1 (List.map a_i64 x63.times)]), (64, .cp [.sl 1 (List.map a_i64 x63.list)]), (65, .sl 1 (List.map a_i64 x63.list)), (66, .int .i64 p1), (67, .cp [.int .i64 x67]), (68, .int .i64 x67), (69, .bool (decide ((0 : Int) ≤ x67)))], [(11, .arr ⟨false, false⟩ 3 91 (List.map a_l06Row s2.1)), (170, .arr ⟨false, true⟩ 1 2 (List.map a_i64 j0.2.1)), (171, .arr ⟨false, true⟩ 1 2 (List.map a_i64 j0.2.2.1)), (173, .box [.int .i64 j0.1, .ow 170, .ow 171])]⟩) (fun j0 => m_spec_l06Stage_J0 s2 j0 = some c2) (fun j0 hm => ?_) (fun hj0 => ?_)
                · unfold m_spec_l06Stage_J0 at hm
                  refine T_seq ?_
                  refine T_seq ?_
                  refine T_region ?_
                  refine TL_pure rfl rfl rfl rfl (op_move rfl) ?_
                  refine TL_pure rfl rfl rfl rfl (op_not rfl) ?_
                  refine TL_pure rfl rfl rfl rfl (op_move rfl) ?_
                  refine TL_join 4 (fun _ : Unit => ⟨[(0, .sl 3 (List.map a_l06Row p0)), (1, .int .i64 p1), (7, .ow 11), (9, .int .i64 (u0.length : Int)), (10, .int .i64 s1.2), (11, .int .i64 s2.2), (12, .ptr 173 0 0), (61, .sl 3 (List.map a_l06Row p0)), (62, .int .i64 s2.2), (63, .cp [.int .i64 x63.c, .sl 1 (List.map a_i64 x63.list), .sl 1 (List.map a_i64 x63.times)]), (64, .cp [.sl 1 (List.map a_i64 x63.list)]), (65, .sl 1 (List.map a_i64 x63.list)), (66, .int .i64 p1), (67, .cp [.int .i64 x67]), (68, .int .i64 x67), (69, .bool (decide ((0 : Int) ≤ x67))), (88, .bool ((!j0.2.2.2) || (decide ((s2.1.length : Int) = (60 : Int)))))], [(11, .arr ⟨false, false⟩ 3 91 (List.map a_l06Row s2.1)), (170, .arr ⟨false, true⟩ 1 2 (List.map a_i64 j0.2.1)), (171, .arr ⟨false, true⟩ 1 2 (List.map a_i64 j0.2.2.1)), (173, .box [.int .i64 j0.1, .ow 170, .ow 171])]⟩) (fun _ => True) (fun _ _ => ?_) (fun hjj => ?_)
                  · refine TL_nil ?_
                    refine T_cond rfl (fun hq => ?_) (fun hq => ?_)
                    · replace hm := condT hq hm
                      refine T_seq ?_
                      refine T_region ?_
                      refine TL_pure rfl rfl rfl rfl (op_assign rfl) ?_
                      refine TL_pure rfl rfl rfl rfl (op_assign rfl) ?_
                      refine TL_pure rfl rfl rfl rfl (op_assign rfl) ?_
                      refine TL_nil ?_
                      refine T_keepH [4, 5, 6] [] rfl rfl rfl rfl (by rw [hF]; rfl) ?_
                      refine T_nilAt 4 (x' := .sl 3 (List.map a_l06Row ([] : List l06Row))) rfl (.inr ⟨_, rfl⟩) rfl ?_
                      refine T_ret ?_
                      obtain rfl := someI hm
                      have hn := CtlOK_out hc2
                      exact hx2 (.inr (([] : List l06Row), (0 : Int), false)) hn
                    · replace hm := condF hq hm
                      refine T_skip ?_
                      refine T_region ?_
                      refine TL_pure rfl rfl rfl rfl (op_move rfl) ?_
                      refine TL_pure rfl rfl rfl rfl (op_load_agg ag91 sz91 rfl rfl rfl) ?_
                      refine TL_freeze 170 (by rw [hF]; rfl) rfl rfl rfl ?_
                      refine TL_freeze 171 (by rw [hF]; rfl) rfl rfl rfl ?_
                      refine TL_buildSlice 176 (es := List.map a_l06Row [(l06Row.mk j0.1 j0.2.1 j0.2.2.1)]) el84 z91 rfl rfl rfl rfl rfl rfl rfl rfl rfl ?_
                      obtain ⟨q92, hq92, hm⟩ := bindS hm
                      refine TL_appendT (f := a_l06Row) (a := s2.1) (b := [(l06Row.mk j0.1 j0.2.1 j0.2.2.1)]) el84 z91 rfl rfl rfl rfl rfl rfl rfl (capI_spec hq92) rfl rfl rfl rfl rfl ?_
                      refine TL_pure rfl rfl rfl rfl (op_assign rfl) ?_
                      refine TL_nil ?_
                      refine T_region ?_
                      refine TL_pure rfl rfl rfl rfl (op_move rfl) ?_
                      refine TL_pure rfl rfl rfl rfl (op_addW rfl rfl) ?_
                      refine TL_pure rfl rfl rfl rfl (op_assign rfl) ?_
                      refine TL_nil ?_
                      refine TR_keepH [0, 1, 7, 9, 10, 11] [11] rfl rfl rfl rfl (by rw [hF]; rfl) ?_
                      obtain rfl := someI hm
                      have hn := CtlOK_next hc2
                      exact hn _ rfl
                  · refine TL_split 84 rfl rfl rfl (fun hq => ?_) (fun hq => ?_)
                    · refine TL_pass rfl rfl rfl rfl rfl rfl rfl ?_
                      refine TL_pass rfl rfl rfl rfl rfl rfl rfl ?_
                      refine TL_pass rfl rfl rfl rfl rfl rfl rfl ?_
                      refine TL_pure rfl rfl rfl rfl (op_pick_true rfl rfl) ?_
                      refine TL_keepH [0, 1, 7, 9, 10, 11, 12, 61, 62, 63, 64, 65, 66, 67, 68, 69, 88] [11, 170, 171, 173] rfl rfl rfl rfl (by rw [hF]; rfl) ?_
                      exact TL_cast _ (by rw [hq]; rfl) (hjj () trivial)
                    · refine TL_want rfl rfl ?_
                      refine TL_pure rfl rfl rfl rfl (op_move rfl) ?_
                      refine TL_want rfl rfl ?_
                      refine TL_pure rfl rfl rfl rfl (op_lenO Try.underlying84 rfl rfl (List.length_map _)) ?_
                      refine TL_fact (fun _ _ _ hr => RelP.owLen (id := 11) rfl hr) (fun hlen86 => ?_)
                      rw [List.length_map] at hlen86
                      refine TL_want rfl rfl ?_
                      refine TL_pure rfl rfl rfl rfl (op_eql rfl rfl) ?_
                      refine TL_pure rfl rfl rfl rfl (op_pick_false rfl rfl) ?_
                      refine TL_keepH [0, 1, 7, 9, 10, 11, 12, 61, 62, 63, 64, 65, 66, 67, 68, 69, 88] [11, 170, 171, 173] rfl rfl rfl rfl (by rw [hF]; rfl) ?_
                      exact TL_cast _ (by rw [hq]; rfl) (hjj () trivial)
                · refine T_drawZ [12] mix (by kernel_rfl) rfl ?_
                  obtain ⟨r79, hr79, hm⟩ := bindS hm
                  refine TZ_pure 0 (by kernel_rfl) rfl rfl rfl rfl rfl (op_move rfl) ?_
                  refine TZ_pure 1 (by kernel_rfl) rfl rfl rfl rfl rfl (op_move rfl) ?_
                  refine TZ_pure 2 (by kernel_rfl) rfl rfl rfl rfl rfl (op_indexT el84 rfl rfl hx53 rfl) ?_
                  refine TZ_pure 3 (by kernel_rfl) rfl rfl rfl rfl rfl (op_move rfl) ?_
                  refine TZ_pure 4 (by kernel_rfl) rfl rfl rfl rfl rfl (op_move rfl) ?_
                  refine TZ_pure 5 (by kernel_rfl) rfl rfl rfl rfl rfl (op_indexT el84 rfl rfl hx63 rfl) ?_
                  refine TZ_pure 6 (by kernel_rfl) rfl rfl rfl rfl rfl (op_move rfl) ?_
                  refine TZ_each [7, 11] (by kernel_rfl) rfl ?_
                  refine ⟨?_, ?_⟩
                  · refine ⟨_, rfl, ?_⟩
                    refine TL_callO [(1000, 180), (1001, 181)] (c_spec_l06Mix x53 x63 p1 r79 hr79) Try.call101 rfl rfl rfl rfl rfl rfl rfl rfl rfl rfl rfl rfl rfl ?_
                    refine TL_nil ?_
                    refine TZ_pure 8 (by kernel_rfl) rfl rfl rfl rfl rfl (op_move rfl) ?_
                    refine TZ_pure 9 (by kernel_rfl) rfl rfl rfl rfl rfl (op_extract rfl rfl) ?_
                    refine TZ_pure 10 (by kernel_rfl) rfl rfl rfl rfl rfl (op_extract rfl rfl) ?_
                    refine TZ_one 11 (by kernel_rfl) rfl ?_
                    refine TL_alloc 183 z91 rfl rfl rfl rfl rfl rfl rfl ?_
                    refine TL_nil ?_
                    refine TZ_one 12 (by kernel_rfl) rfl ?_
                    refine TL_store_box sz91 rfl rfl rfl rfl rfl rfl rfl rfl rfl ?_
                    refine TL_nil ?_
                    refine TZ_pure 13 (by kernel_rfl) rfl rfl rfl rfl rfl (op_assign rfl) ?_
                    refine TZ_done (by kernel_rfl) ?_
                    refine T_keepH [0, 1, 7, 9, 10, 11, 12, 13, 61, 62, 63, 64, 65, 66, 67, 68, 69] [11, 180, 181, 183] rfl rfl rfl rfl (by rw [hF]; rfl) ?_
                    refine T_ren [(11, 11), (180, 170), (181, 171), (183, 173)] rfl rfl rfl (by rw [hF]; rfl) ?_
                    exact hj0 (r79.1.c, r79.1.list, r79.1.times, r79.2) hm
                  · refine ⟨_, rfl, ?_⟩
                    refine TL_alloc 182 z91 rfl rfl rfl rfl rfl rfl rfl ?_
                    refine TL_nil ?_
                    refine TZ_one 7 (by kernel_rfl) rfl ?_
                    refine TL_callO [(1000, 184), (1001, 185)] (c_spec_l06Mix x53 x63 p1 r79 hr79) Try.call101 rfl rfl rfl rfl rfl rfl rfl rfl rfl rfl rfl rfl rfl ?_
                    refine TL_nil ?_
                    refine TZ_pure 8 (by kernel_rfl) rfl rfl rfl rfl rfl (op_move rfl) ?_
                    refine TZ_pure 9 (by kernel_rfl) rfl rfl rfl rfl rfl (op_extract rfl rfl) ?_
                    refine TZ_pure 10 (by kernel_rfl) rfl rfl rfl rfl rfl (op_extract rfl rfl) ?_
                    refine TZ_one 12 (by kernel_rfl) rfl ?_
                    refine TL_store_box sz91 rfl rfl rfl rfl rfl rfl rfl rfl rfl ?_
                    refine TL_nil ?_
                    refine TZ_pure 13 (by kernel_rfl) rfl rfl rfl rfl rfl (op_assign rfl) ?_
                    refine TZ_done (by kernel_rfl) ?_
                    refine T_keepH [0, 1, 7, 9, 10, 11, 12, 13, 61, 62, 63, 64, 65, 66, 67, 68, 69] [11, 182, 184, 185] rfl rfl rfl rfl (by rw [hF]; rfl) ?_
                    refine T_ren [(11, 11), (182, 173), (184, 170), (185, 171)] rfl rfl rfl (by rw [hF]; rfl) ?_
                    refine T_keepH [0, 1, 7, 9, 10, 11, 12, 13, 61, 62, 63, 64, 65, 66, 67, 68, 69] [11, 170, 171, 173] rfl rfl rfl rfl (by rw [hF]; rfl) ?_
                    exact hj0 (r79.1.c, r79.1.list, r79.1.times, r79.2) hm
          · replace hm := condF hq hm
            refine T_keepH [0, 1, 7, 9, 10] [11] rfl rfl rfl rfl (by rw [hF]; rfl) ?_
            refine T_exit ?_
            obtain rfl := someI hm
            have hn := CtlOK_out hc2
            exact hx2 (.inl s2.1) hn
      · replace hm := condF hq hm
        refine T_keepH [7, 9] [11] rfl rfl rfl rfl (by rw [hF]; rfl) ?_
        refine T_exit ?_
        obtain rfl := someI hm
        have hn := CtlOK_out hc1
        exact hx1 (.inl s1.1) hn
  · unfold m_spec_l06Stage_L0 at hm
    refine T_seq ?_
    refine T_seq ?_
    refine T_region ?_
    refine TL_pure rfl rfl rfl rfl (op_move rfl) ?_
    refine TL_pure rfl rfl rfl rfl (op_move rfl) ?_
    refine TL_pure rfl rfl rfl rfl (op_lenT Try.underlying84 rfl (List.length_map _)) ?_
    refine TL_fact (fun _ _ _ hr => RelP.slLen (i := 16) rfl hr) (fun hlen17 => ?_)
    rw [List.length_map] at hlen17
    refine TL_pure rfl rfl rfl rfl (op_lss rfl rfl) ?_
    refine TL_nil ?_
    refine T_cond rfl (fun hq => ?_) (fun hq => ?_)
    · replace hm := condT hq hm
      refine T_skip ?_
      refine T_seq ?_
      refine T_block ?_
      refine T_seq ?_
      refine T_region ?_
      refine TL_pure rfl rfl rfl rfl (op_move rfl) ?_
      refine TL_pure rfl rfl rfl rfl (op_move rfl) ?_
      obtain ⟨x23, hx23, hm⟩ := bindS hm
      refine TL_pure rfl rfl rfl rfl (op_indexT el84 rfl rfl hx23 rfl) ?_
      refine TL_pure rfl rfl rfl rfl (op_fieldAddrC (n := 1) fa91_1 rfl rfl rfl) ?_
      refine TL_pure rfl rfl rfl rfl (op_load_one ag26 rfl rfl) ?_
      refine TL_pure rfl rfl rfl rfl (op_move rfl) ?_
      obtain ⟨x27, hx27, hm⟩ := bindS hm
      refine TL_pure rfl rfl rfl rfl (op_indexT el26 rfl rfl hx27 rfl) ?_
      refine TL_pure rfl rfl rfl rfl (op_load_one ag2 rfl rfl) ?_
      refine TL_pure rfl rfl rfl rfl (op_eql rfl rfl) ?_
      refine TL_nil ?_
      refine T_cond rfl (fun hq => ?_) (fun hq => ?_)
      · replace hm := condT hq hm
        refine T_region ?_
        refine TL_pure rfl rfl rfl rfl (op_move rfl) ?_
        refine TL_pure rfl rfl rfl rfl (op_move rfl) ?_
        refine TL_pure rfl rfl rfl rfl (op_move rfl) ?_
        refine TL_pure rfl rfl rfl rfl (op_indexT el84 rfl rfl hx23 rfl) ?_
        refine TL_pure rfl rfl rfl rfl (op_load_agg ag91 sz91 rfl rfl rfl) ?_
        refine TL_buildSlice 14 (es := List.map a_l06Row [x23]) el84 z91 rfl rfl rfl rfl rfl rfl rfl rfl rfl ?_
        obtain ⟨q36, hq36, hm⟩ := bindS hm
        refine TL_appendT (f := a_l06Row) (a := s0.1) (b := [x23]) el84 z91 rfl rfl rfl rfl rfl rfl rfl (capI_spec hq36) rfl rfl rfl rfl rfl ?_
        refine TL_pure rfl rfl rfl rfl (op_assign rfl) ?_
        refine TL_nil ?_
        refine T_region ?_
        refine TL_pure rfl rfl rfl rfl (op_move rfl) ?_
        refine TL_pure rfl rfl rfl rfl (op_addW rfl rfl) ?_
        refine TL_pure rfl rfl rfl rfl (op_assign rfl) ?_
        refine TL_nil ?_
        refine TR_keepH [0, 1, 7, 8] [11] rfl rfl rfl rfl (by rw [hF]; rfl) ?_
        obtain rfl := someI hm
        have hn := CtlOK_next hc0
        exact hn _ rfl
      · replace hm := condF hq hm
        refine T_skip ?_
        refine T_region ?_
        refine TL_pure rfl rfl rfl rfl (op_move rfl) ?_
        refine TL_pure rfl rfl rfl rfl (op_addW rfl rfl) ?_
        refine TL_pure rfl rfl rfl rfl (op_assign rfl) ?_
        refine TL_nil ?_
        refine TR_keepH [0, 1, 7, 8] [11] rfl rfl rfl rfl (by rw [hF]; rfl) ?_
        obtain rfl := someI hm
        have hn := CtlOK_next hc0
        exact hn _ rfl
    · replace hm := condF hq hm
      refine T_keepH [0, 1, 7] [11] rfl rfl rfl rfl (by rw [hF]; rfl) ?_
      refine T_exit ?_
      obtain rfl := someI hm
      have hn := CtlOK_out hc0
      exact hx0 s0.1 hn

theorem c_spec_l06Every (p0 : List Term) (out : (List l06Row) × (List l06Row) × Bool) (hm : m_spec_l06Every p0 = some out) : ACall Try.prog 97 [.sl 2 (List.map a_Term p0)] [] (.tup [.sl 3 (List.map a_l06Row out.1), .sl 3 (List.map a_l06Row out.2.1), .bool out.2.2]) [] := by
  refine ACall.intro Try.func97 rfl Try.ntmps97 rfl (fun F hF => ?_)
  unfold m_spec_l06Every at hm
  refine T_seq ?_
  refine T_region ?_
  refine TL_pure rfl rfl rfl rfl (op_assign rfl) ?_
  refine TL_pure rfl rfl rfl rfl (op_assign rfl) ?_
  refine TL_pure rfl rfl rfl rfl (op_assign rfl) ?_
  refine TL_nil ?_
  refine T_seq ?_
  refine T_region ?_
  refine TL_pure rfl rfl rfl rfl (op_move rfl) ?_
  obtain ⟨r12, hr12, hm⟩ := bindS hm
  refine TL_callO [(1000, 11)] (c_spec_l06Rows p0 r12 hr12) Try.call59 rfl rfl rfl rfl rfl rfl rfl rfl rfl rfl rfl rfl rfl ?_
  refine TL_pure rfl rfl rfl rfl (op_assign rfl) ?_
  refine TL_nil ?_
  refine T_seq ?_
  refine T_region ?_
  refine TL_buildSlice 12 (es := List.map a_l06Row ([] : List l06Row)) el84 z91 rfl rfl rfl rfl rfl rfl rfl rfl rfl ?_
  refine TL_pure rfl rfl rfl rfl (op_assign rfl) ?_
  refine TL_nil ?_
  refine T_seq ?_
  refine T_seq ?_
  refine T_region ?_
  refine TL_pure rfl rfl rfl rfl (op_assign rfl) ?_
  refine TL_nil ?_
  refine T_block ?_
  refine T_keepH [5, 6, 7] [11, 12] rfl rfl rfl rfl (by rw [hF]; rfl) ?_
  refine T_freeze 11 (by rw [hF]; rfl) rfl rfl rfl ?_
  refine T_loop ?_
  obtain ⟨u0, hl0, hm⟩ := bindS hm
  refine TR_iter2 (m_spec_l06Every_L0) (fun (s0 : (List l06Row) × (List l06Row) × Int) => ⟨[(5, .sl 3 (List.map a_l06Row s0.1)), (6, .ow 12), (7, .int .i64 s0.2.2)], [(12, .arr ⟨false, false⟩ 3 91 (List.map a_l06Row s0.2.1))]⟩) (fun u0 => match u0 with | .inl u0 => .exit 0 | .inr u0 => .ret) (fun u0 => match u0 with | .inl u0 => ⟨[(5, .sl 3 (List.map a_l06Row u0.1)), (6, .ow 12)], [(12, .arr ⟨false, false⟩ 3 91 (List.map a_l06Row u0.2))]⟩ | .inr u0 => ⟨[(2, .sl 3 (List.map a_l06Row u0.1)), (3, .sl 3 (List.map a_l06Row u0.2.1)), (4, .bool u0.2.2)], []⟩) (fun u0 => m_spec_l06Every_A0 u0 = some out) hl0 hm (fun u0 hm => ?_) (fun hx0 s0 c0 hm hc0 => ?_)
  · rcases u0 with u0 | u0
    · unfold m_spec_l06Every_A0 at hm
      refine T_seq ?_
      refine T_region ?_
      refine TL_pure rfl rfl rfl rfl (op_move rfl) ?_
      refine TL_pure rfl rfl rfl rfl (op_move rfl) ?_
      refine TL_pure rfl rfl rfl rfl (op_assign rfl) ?_
      refine TL_pure rfl rfl rfl rfl (op_assign rfl) ?_
      refine TL_pure rfl rfl rfl rfl (op_assign rfl) ?_
      refine TL_nil ?_
      refine T_keepH [2, 3, 4] [12] rfl rfl rfl rfl (by rw [hF]; rfl) ?_
      refine T_freeze 12 (by rw [hF]; rfl) rfl rfl rfl ?_
      refine T_ret ?_
      obtain rfl := someI hm
      refine ⟨[_, _, _], [], ⟨rfl, rfl, rfl, trivial⟩, ?_, rfl, rfl, rfl, rfl⟩
      rfl
    · unfold m_spec_l06Every_A0 at hm
      obtain rfl := someI hm
      refine ⟨[_, _, _], [], ⟨rfl, rfl, rfl, trivial⟩, ?_, rfl, rfl, rfl, rfl⟩
      rfl
  · unfold m_spec_l06Every_L0 at hm
    refine T_seq ?_
    refine T_seq ?_
    refine T_region ?_
    refine TL_pure rfl rfl rfl rfl (op_move rfl) ?_
    refine TL_pure rfl rfl rfl rfl (op_lss rfl rfl) ?_
    refine TL_nil ?_
    refine T_cond rfl (fun hq => ?_) (fun hq => ?_)
    · replace hm := condT hq hm
      refine T_skip ?_
      refine T_seq ?_
      refine T_block ?_
      refine T_seq ?_
      refine T_region ?_
      refine TL_pure rfl rfl rfl rfl (op_move rfl) ?_
      refine TL_pure rfl rfl rfl rfl (op_move rfl) ?_
      obtain ⟨r21, hr21, hm⟩ := bindS hm
      refine TL_callT (c_spec_l06Stage s0.1 s0.2.2 r21 hr21) Try.call58 rfl rfl rfl rfl rfl ?_
      refine TL_pure rfl rfl rfl rfl (op_move rfl) ?_
      refine TL_pure rfl rfl rfl rfl (op_extract rfl rfl) ?_
      refine TL_pure rfl rfl rfl rfl (op_extract rfl rfl) ?_
      refine TL_pure rfl rfl rfl rfl (op_extract rfl rfl) ?_
      refine TL_pure rfl rfl rfl rfl (op_assign rfl) ?_
      refine TL_pure rfl rfl rfl rfl (op_assign rfl) ?_
      refine TL_pure rfl rfl rfl rfl (op_assign rfl) ?_
      refine TL_nil ?_
      refine T_seq ?_
      refine T_seq ?_
      refine T_region ?_
      refine TL_pure rfl rfl rfl rfl (op_move rfl) ?_
      refine TL_pure rfl rfl rfl rfl (op_not rfl) ?_
      refine TL_nil ?_
      refine T_cond rfl (fun hq => ?_) (fun hq => ?_)
      · replace hm := condT hq hm
        refine T_seq ?_
        refine T_region ?_
        refine TL_pure rfl rfl rfl rfl (op_assign rfl) ?_
        refine TL_pure rfl rfl rfl rfl (op_assign rfl) ?_
        refine TL_pure rfl rfl rfl rfl (op_assign rfl) ?_
        refine TL_nil ?_
        refine T_keepH [2, 3, 4] [] rfl rfl rfl rfl (by rw [hF]; rfl) ?_
        refine T_nilAt 2 (x' := .sl 3 (List.map a_l06Row ([] : List l06Row))) rfl (.inr ⟨_, rfl⟩) rfl ?_
        refine T_nilAt 3 (x' := .sl 3 (List.map a_l06Row ([] : List l06Row))) rfl (.inr ⟨_, rfl⟩) rfl ?_
        refine T_ret ?_
        obtain rfl := someI hm
        have hn := CtlOK_out hc0
        exact hx0 (.inr (([] : List l06Row), ([] : List l06Row), false)) hn
      · replace hm := condF hq hm
        refine T_skip ?_
        refine T_seq ?_
        refine T_region ?_
        refine TL_pure rfl rfl rfl rfl (op_move rfl) ?_
        refine TL_pure rfl rfl rfl rfl (op_move rfl) ?_
        refine TL_pure rfl rfl rfl rfl (op_move rfl) ?_
        obtain ⟨y30, hy30, hm⟩ := bindS hm
        refine TL_pure rfl rfl rfl rfl (op_sliceI el84 rfl ⟨⟨_, rfl⟩, rfl⟩ hy30) ?_
        obtain ⟨q31, hq31, hm⟩ := bindS hm
        refine TL_appendT (f := a_l06Row) (a := s0.2.1) (b := y30) el84 z91 rfl rfl rfl rfl rfl rfl rfl (capI_spec hq31) rfl rfl rfl rfl rfl ?_
        refine TL_pure rfl rfl rfl rfl (op_assign rfl) ?_
        refine TL_nil ?_
        refine T_region ?_
        refine TL_pure rfl rfl rfl rfl (op_move rfl) ?_
        refine TL_pure rfl rfl rfl rfl (op_assign rfl) ?_
        refine TL_nil ?_
        refine T_region ?_
        refine TL_pure rfl rfl rfl rfl (op_move rfl) ?_
        refine TL_pure rfl rfl rfl rfl (op_addW rfl rfl) ?_
        refine TL_pure rfl rfl rfl rfl (op_assign rfl) ?_
        refine TL_nil ?_
        refine TR_keepH [5, 6, 7] [12] rfl rfl rfl rfl (by rw [hF]; rfl) ?_
        obtain rfl := someI hm
        have hn := CtlOK_next hc0
        exact hn _ rfl
    · replace hm := condF hq hm
      refine T_keepH [5, 6] [12] rfl rfl rfl rfl (by rw [hF]; rfl) ?_
      refine T_exit ?_
      obtain rfl := someI hm
      have hn := CtlOK_out hc0
      exact hx0 (.inl (s0.1, s0.2.1)) hn

theorem c_spec_l00Own (p0 : List Int) (out : List Int) (hm : m_spec_l00Own p0 = some out) : ACall Try.prog 54 [.sl 1 (List.map a_i64 p0)] [] (.ow 1000) [(1000, .arr ⟨false, true⟩ 1 2 (List.map a_i64 out))] := by
  refine ACall.intro Try.func54 rfl Try.ntmps54 rfl (fun F hF => ?_)
  unfold m_spec_l00Own at hm
  refine T_seq ?_
  refine T_region ?_
  refine TL_pure rfl rfl rfl rfl (op_assign rfl) ?_
  refine TL_nil ?_
  refine T_seq ?_
  refine T_region ?_
  refine TL_buildSlice 11 (es := List.map a_i64 ([] : List Int)) el26 z2 rfl rfl rfl rfl rfl rfl rfl rfl rfl ?_
  refine TL_pure rfl rfl rfl rfl (op_move rfl) ?_
  obtain ⟨q5, hq5, hm⟩ := bindS hm
  refine TL_appendT (f := a_i64) (a := ([] : List Int)) (b := p0) el26 z2 rfl rfl rfl rfl rfl rfl rfl (capI_spec hq5) rfl rfl rfl rfl rfl ?_
  refine TL_pure rfl rfl rfl rfl (op_assign rfl) ?_
  refine TL_nil ?_
  refine T_keepH [2] [11] rfl rfl rfl rfl (by rw [hF]; rfl) ?_
  refine T_deepen 11 (p' := false) (List.map a_i64 (([] : List Int) ++ p0)) (by rw [hF]; rfl) rfl (ElR.map (f := a_i64) (g := a_i64) (fun _ => ⟨⟨rfl, rfl⟩, trivial⟩) (([] : List Int) ++ p0)) rfl rfl rfl ?_
  refine T_ren [(11, 1000)] rfl rfl rfl (by rw [hF]; rfl) ?_
  refine T_ret ?_
  obtain rfl := someI hm
  refine ⟨[_], [1000], ⟨rfl, trivial⟩, ?_, rfl, rfl, rfl, rfl⟩
  rfl

theorem c_spec_l02Make (p0 : Int) (p1 : List Int) (out : Term × Bool) (hm : m_spec_l02Make p0 p1 = some out) : ACall Try.prog 45 [.int .i64 p0, .sl 1 (List.map a_i64 p1)] [] (.tup [.agg [.int .i64 out.1.Const, .ow 1000], .bool out.2]) [(1000, .arr ⟨false, true⟩ 1 2 (List.map a_i64 out.1.Coeffs))] := by
  refine ACall.intro Try.func45 rfl Try.ntmps45 rfl (fun F hF => ?_)
  unfold m_spec_l02Make at hm
  refine T_seq ?_
  refine T_region ?_
  refine TL_alloc 11 z41 rfl rfl rfl rfl rfl rfl rfl ?_
  refine TL_pure rfl rfl rfl rfl (op_assign rfl) ?_
  refine TL_nil ?_
  refine T_seq ?_
  refine T_region ?_
  refine TL_pure rfl rfl rfl rfl (op_move rfl) ?_
  refine TL_pure rfl rfl rfl rfl (op_lenT Try.underlying26 rfl (List.length_map _)) ?_
  refine TL_fact (fun _ _ _ hr => RelP.slLen (i := 8) rfl hr) (fun hlen9 => ?_)
  rw [List.length_map] at hlen9
  refine TL_pure rfl rfl rfl rfl (op_assign rfl) ?_
  refine TL_nil ?_
  refine T_seq ?_
  refine T_block ?_
  refine T_keepH [0, 1, 4, 6] [11] rfl rfl rfl rfl (by rw [hF]; rfl) ?_
  refine T_loop ?_
  obtain ⟨u0, hl0, hm⟩ := bindS hm
  refine TR_iter2 (m_spec_l02Make_L0 p1) (fun (s0 : Int) => ⟨[(0, .int .i64 p0), (1, .sl 1 (List.map a_i64 p1)), (4, .ptr 11 0 0), (6, .int .i64 s0)], [(11, .box [.int .i64 (0 : Int), .snil])]⟩) (fun u0 => .exit 0) (fun u0 => ⟨[(0, .int .i64 p0), (1, .sl 1 (List.map a_i64 p1)), (4, .ptr 11 0 0), (6, .int .i64 u0)], [(11, .box [.int .i64 (0 : Int), .snil])]⟩) (fun u0 => m_spec_l02Make_A0 p0 p1 u0 = some out) hl0 hm (fun u0 hm => ?_) (fun hx0 s0 c0 hm hc0 => ?_)
  · unfold m_spec_l02Make_A0 at hm
    refine T_seq ?_
    refine T_region ?_
    refine TL_pure rfl rfl rfl rfl (op_move rfl) ?_
    refine TL_pure rfl rfl rfl rfl (op_move rfl) ?_
    refine TL_pure rfl rfl rfl rfl (op_move rfl) ?_
    obtain ⟨y25, hy25, hm⟩ := bindS hm
    refine TL_pure rfl rfl rfl rfl (op_sliceI el26 rfl ⟨rfl, ⟨_, rfl⟩⟩ hy25) ?_
    obtain ⟨r26, hr26, hm⟩ := bindS hm
    refine TL_callO [(1000, 12)] (c_spec_l00Own y25 r26 hr26) Try.call54 rfl rfl rfl rfl rfl rfl rfl rfl rfl rfl rfl rfl rfl ?_
    refine TL_pure rfl rfl rfl rfl (op_buildP pl41 z41 rfl rfl rfl rfl rfl) ?_
    refine TL_alloc 13 z41 rfl rfl rfl rfl rfl rfl rfl ?_
    refine TL_store_box sz41 rfl rfl rfl rfl rfl rfl rfl rfl rfl ?_
    refine TL_nil ?_
    refine T_seq ?_
    refine T_seq ?_
    refine T_region ?_
    obtain ⟨r28, hr28, hm⟩ := bindS hm
    refine TL_callF (c_spec_l02Is (Term.mk p0 r26) r28 hr28) Try.call74 rfl rfl rfl rfl rfl ?_
    refine TL_pure rfl rfl rfl rfl (op_not rfl) ?_
    refine TL_nil ?_
    refine T_cond rfl (fun hq => ?_) (fun hq => ?_)
    · replace hm := condT hq hm
      refine T_seq ?_
      refine T_region ?_
      refine TL_pure rfl rfl rfl rfl (op_buildP pl41 z41 rfl rfl rfl rfl rfl) ?_
      refine TL_store_box sz41 rfl rfl rfl rfl rfl rfl rfl rfl rfl ?_
      refine TL_pure rfl rfl rfl rfl (op_assign rfl) ?_
      refine TL_nil ?_
      refine T_ownNilBox 11 1 14 ⟨false, true⟩ 2 rfl rfl rfl (sz := 1) rfl rfl rfl rfl ?_
      refine T_keepH [4, 5] [11, 14] rfl rfl rfl rfl (by rw [hF]; rfl) ?_
      refine T_ren [(11, 11), (14, 1000)] rfl rfl rfl (by rw [hF]; rfl) ?_
      refine T_ret ?_
      obtain rfl := someI hm
      refine ⟨[_, _], [1000], ⟨⟨_, _, rfl, rfl, .inr ⟨ag41, _, _, sz41, rfl, rfl⟩⟩, rfl, trivial⟩, ?_, rfl, rfl, rfl, rfl⟩
      rfl
    · replace hm := condF hq hm
      refine T_skip ?_
      refine T_seq ?_
      refine T_region ?_
      refine TL_pure rfl rfl rfl rfl (op_load_agg ag41 sz41 rfl rfl rfl) ?_
      refine TL_store_box sz41 rfl rfl rfl rfl rfl rfl rfl rfl rfl ?_
      refine TL_pure rfl rfl rfl rfl (op_assign rfl) ?_
      refine TL_nil ?_
      refine T_keepH [4, 5] [11, 12] rfl rfl rfl rfl (by rw [hF]; rfl) ?_
      refine T_ren [(11, 11), (12, 1000)] rfl rfl rfl (by rw [hF]; rfl) ?_
      refine T_ret ?_
      obtain rfl := someI hm
      refine ⟨[_, _], [1000], ⟨⟨_, _, rfl, rfl, .inr ⟨ag41, _, _, sz41, rfl, rfl⟩⟩, rfl, trivial⟩, ?_, rfl, rfl, rfl, rfl⟩
      rfl
  · unfold m_spec_l02Make_L0 at hm
    refine T_seq ?_
    refine T_seq ?_
    refine T_region ?_
    refine TL_pure rfl rfl rfl rfl (op_move rfl) ?_
    refine TL_pure rfl rfl rfl rfl (op_gtr rfl rfl) ?_
    refine TL_pure rfl rfl rfl rfl (op_move rfl) ?_
    refine TL_split 12 rfl rfl rfl (fun hq => ?_) (fun hq => ?_)
    · replace hm := condT hq hm
      refine TL_want rfl rfl ?_
      refine TL_pure rfl rfl rfl rfl (op_move rfl) ?_
      refine TL_want rfl rfl ?_
      refine TL_pure rfl rfl rfl rfl (op_move rfl) ?_
      refine TL_want rfl rfl ?_
      refine TL_pure rfl rfl rfl rfl (op_subW rfl rfl) ?_
      refine TL_want rfl rfl ?_
      obtain ⟨x16, hx16, hm⟩ := bindS hm
      refine TL_pure rfl rfl rfl rfl (op_indexT el26 rfl rfl hx16 rfl) ?_
      refine TL_want rfl rfl ?_
      refine TL_pure rfl rfl rfl rfl (op_load_one ag2 rfl rfl) ?_
      refine TL_want rfl rfl ?_
      refine TL_pure rfl rfl rfl rfl (op_eql rfl rfl) ?_
      refine TL_pure rfl rfl rfl rfl (op_pick_true rfl rfl) ?_
      refine TL_nil ?_
      refine T_cond rfl (fun hq => ?_) (fun hq => ?_)
      · replace hm := condT hq hm
        refine T_skip ?_
        refine T_block ?_
        refine T_region ?_
        refine TL_pure rfl rfl rfl rfl (op_move rfl) ?_
        refine TL_pure rfl rfl rfl rfl (op_subW rfl rfl) ?_
        refine TL_pure rfl rfl rfl rfl (op_assign rfl) ?_
        refine TL_nil ?_
        refine TR_keepH [0, 1, 4, 6] [11] rfl rfl rfl rfl (by rw [hF]; rfl) ?_
        obtain rfl := someI hm
        have hn := CtlOK_next hc0
        exact hn _ rfl
      · replace hm := condF hq hm
        refine T_keepH [0, 1, 4, 6] [11] rfl rfl rfl rfl (by rw [hF]; rfl) ?_
        refine T_exit ?_
        obtain rfl := someI hm
        have hn := CtlOK_out hc0
        exact hx0 s0 hn
    · replace hm := condF hq hm
      refine TL_pass rfl rfl rfl rfl rfl rfl rfl ?_
      refine TL_pass rfl rfl rfl rfl rfl rfl rfl ?_
      refine TL_pass rfl rfl rfl rfl rfl rfl rfl ?_
      refine TL_pass rfl rfl rfl rfl rfl rfl rfl ?_
      refine TL_pass rfl rfl rfl rfl rfl rfl rfl ?_
      refine TL_pass rfl rfl rfl rfl rfl rfl rfl ?_
      refine TL_pure rfl rfl rfl rfl (op_pick_false rfl rfl) ?_
      refine TL_nil ?_
      refine T_cond_false rfl ?_
      refine T_keepH [0, 1, 4, 6] [11] rfl rfl rfl rfl (by rw [hF]; rfl) ?_
      refine T_exit ?_
      obtain rfl := someI hm
      have hn := CtlOK_out hc0
      exact hx0 s0 hn

theorem c_spec_l06Term (p0 : l06Row) (out : Term) (hm : m_spec_l06Term p0 = some out) : ACall Try.prog 60 [.cp [.int .i64 p0.c, .sl 1 (List.map a_i64 p0.list), .sl 1 (List.map a_i64 p0.times)]] [] (.agg [.int .i64 out.Const, .ow 1000]) [(1000, .arr ⟨false, true⟩ 1 2 (List.map a_i64 out.Coeffs))] := by
  refine ACall.intro Try.func60 rfl Try.ntmps60 rfl (fun F hF => ?_)
  unfold m_spec_l06Term at hm
  refine T_seq ?_
  refine T_region ?_
  refine TL_alloc 11 z41 rfl rfl rfl rfl rfl rfl rfl ?_
  refine TL_nil ?_
  refine T_seq ?_
  refine T_drawZ [13] mix (by kernel_rfl) rfl ?_
  obtain ⟨r14, hr14, hm⟩ := bindS hm
  refine TZ_pure 0 (by kernel_rfl) rfl rfl rfl rfl rfl (op_move rfl) ?_
  refine TZ_pure 1 (by kernel_rfl) rfl rfl rfl rfl rfl (op_nilCheck rfl rfl) ?_
  refine TZ_pure 2 (by kernel_rfl) rfl rfl rfl rfl rfl (op_fieldAddrC (n := 1) fa91_0 rfl rfl rfl) ?_
  refine TZ_pure 3 (by kernel_rfl) rfl rfl rfl rfl rfl (op_load_one ag2 rfl rfl) ?_
  refine TZ_pure 4 (by kernel_rfl) rfl rfl rfl rfl rfl (op_move rfl) ?_
  refine TZ_pure 5 (by kernel_rfl) rfl rfl rfl rfl rfl (op_nilCheck rfl rfl) ?_
  refine TZ_pure 6 (by kernel_rfl) rfl rfl rfl rfl rfl (op_fieldAddrC (n := 1) fa91_1 rfl rfl rfl) ?_
  refine TZ_pure 7 (by kernel_rfl) rfl rfl rfl rfl rfl (op_load_one ag26 rfl rfl) ?_
  refine TZ_each [8, 12] (by kernel_rfl) rfl ?_
  refine ⟨?_, ?_⟩
  · refine ⟨_, rfl, ?_⟩
    refine TL_callO [(1000, 14)] (c_spec_l02Make p0.c p0.list r14 hr14) Try.call45 rfl rfl rfl rfl rfl rfl rfl rfl rfl rfl rfl rfl rfl ?_
    refine TL_nil ?_
    refine TZ_pure 9 (by kernel_rfl) rfl rfl rfl rfl rfl (op_move rfl) ?_
    refine TZ_pure 10 (by kernel_rfl) rfl rfl rfl rfl rfl (op_extract rfl rfl) ?_
    refine TZ_pure 11 (by kernel_rfl) rfl rfl rfl rfl rfl (op_extract rfl rfl) ?_
    refine TZ_one 12 (by kernel_rfl) rfl ?_
    refine TL_alloc 16 z41 rfl rfl rfl rfl rfl rfl rfl ?_
    refine TL_nil ?_
    refine TZ_one 13 (by kernel_rfl) rfl ?_
    refine TL_store_box sz41 rfl rfl rfl rfl rfl rfl rfl rfl rfl ?_
    refine TL_nil ?_
    refine TZ_pure 14 (by kernel_rfl) rfl rfl rfl rfl rfl (op_assign rfl) ?_
    refine TZ_done (by kernel_rfl) ?_
    refine T_seq ?_
    refine T_region ?_
    refine TL_pure rfl rfl rfl rfl (op_load_agg ag41 sz41 rfl rfl rfl) ?_
    refine TL_store_box sz41 rfl rfl rfl rfl rfl rfl rfl rfl rfl ?_
    refine TL_nil ?_
    refine T_keepH [2] [11, 14] rfl rfl rfl rfl (by rw [hF]; rfl) ?_
    refine T_ren [(11, 11), (14, 1000)] rfl rfl rfl (by rw [hF]; rfl) ?_
    refine T_ret ?_
    obtain rfl := someI hm
    refine ⟨[_], [1000], ⟨⟨_, _, rfl, rfl, .inr ⟨ag41, _, _, sz41, rfl, rfl⟩⟩, trivial⟩, ?_, rfl, rfl, rfl, rfl⟩
    rfl
  · refine ⟨_, rfl, ?_⟩
    refine TL_alloc 15 z41 rfl rfl rfl rfl rfl rfl rfl ?_
    refine TL_nil ?_
    refine TZ_one 8 (by kernel_rfl) rfl ?_
    refine TL_callO [(1000, 17)] (c_spec_l02Make p0.c p0.list r14 hr14) Try.call45 rfl rfl rfl rfl rfl rfl rfl rfl rfl rfl rfl rfl rfl ?_
    refine TL_nil ?_
    refine TZ_pure 9 (by kernel_rfl) rfl rfl rfl rfl rfl (op_move rfl) ?_
    refine TZ_pure 10 (by kernel_rfl) rfl rfl rfl rfl rfl (op_extract rfl rfl) ?_
    refine TZ_pure 11 (by kernel_rfl) rfl rfl rfl rfl rfl (op_extract rfl rfl) ?_
    refine TZ_one 13 (by kernel_rfl) rfl ?_
    refine TL_store_box sz41 rfl rfl rfl rfl rfl rfl rfl rfl rfl ?_
    refine TL_nil ?_
    refine TZ_pure 14 (by kernel_rfl) rfl rfl rfl rfl rfl (op_assign rfl) ?_
    refine TZ_done (by kernel_rfl) ?_
    refine T_seq ?_
    refine T_region ?_
    refine TL_pure rfl rfl rfl rfl (op_load_agg ag41 sz41 rfl rfl rfl) ?_
    refine TL_store_box sz41 rfl rfl rfl rfl rfl rfl rfl rfl rfl ?_
    refine TL_nil ?_
    refine T_keepH [2] [11, 17] rfl rfl rfl rfl (by rw [hF]; rfl) ?_
    refine T_ren [(11, 11), (17, 1000)] rfl rfl rfl (by rw [hF]; rfl) ?_
    refine T_ret ?_
    obtain rfl := someI hm
    refine ⟨[_], [1000], ⟨⟨_, _, rfl, rfl, .inr ⟨ag41, _, _, sz41, rfl, rfl⟩⟩, trivial⟩, ?_, rfl, rfl, rfl, rfl⟩
    rfl

theorem c_spec_l02Divisor (p0 : Term) (out : Int) (hm : m_spec_l02Divisor p0 = some out) : ACall Try.prog 108 [.cp [.int .i64 p0.Const, .sl 1 (List.map a_i64 p0.Coeffs)]] [] (.int .i64 out) [] := by
  refine ACall.intro Try.func108 rfl Try.ntmps108 rfl (fun F hF => ?_)
  unfold m_spec_l02Divisor at hm
  refine T_seq ?_
  refine T_region ?_
  refine TL_pure rfl rfl rfl rfl (op_assign rfl) ?_
  refine TL_nil ?_
  refine T_seq ?_
  refine T_region ?_
  refine TL_pure rfl rfl rfl rfl (op_assign rfl) ?_
  refine TL_nil ?_
  refine T_seq ?_
  refine T_seq ?_
  refine T_region ?_
  refine TL_pure rfl rfl rfl rfl (op_assign rfl) ?_
  refine TL_nil ?_
  refine T_block ?_
  refine T_keepH [0, 3, 4] [] rfl rfl rfl rfl (by rw [hF]; rfl) ?_
  refine T_loop ?_
  obtain ⟨u0, hl0, hm⟩ := bindS hm
  refine TR_iter2 (m_spec_l02Divisor_L0 p0) (fun (s0 : Int × Int) => ⟨[(0, .cp [.int .i64 p0.Const, .sl 1 (List.map a_i64 p0.Coeffs)]), (3, .int .i64 s0.1), (4, .int .i64 s0.2)], []⟩) (fun u0 => .exit 0) (fun u0 => ⟨[(3, .int .i64 u0)], []⟩) (fun u0 => m_spec_l02Divisor_A0 u0 = some out) hl0 hm (fun u0 hm => ?_) (fun hx0 s0 c0 hm hc0 => ?_)
  · unfold m_spec_l02Divisor_A0 at hm
    refine T_seq ?_
    refine T_region ?_
    refine TL_pure rfl rfl rfl rfl (op_move rfl) ?_
    refine TL_pure rfl rfl rfl rfl (op_assign rfl) ?_
    refine TL_nil ?_
    refine T_keepH [2] [] rfl rfl rfl rfl (by rw [hF]; rfl) ?_
    refine T_ret ?_
    obtain rfl := someI hm
    refine ⟨[_], [], ⟨rfl, trivial⟩, ?_, rfl, rfl, rfl, rfl⟩
    rfl
  · unfold m_spec_l02Divisor_L0 at hm
    refine T_seq ?_
    refine T_seq ?_
    refine T_region ?_
    refine TL_pure rfl rfl rfl rfl (op_move rfl) ?_
    refine TL_pure rfl rfl rfl rfl (op_move rfl) ?_
    refine TL_pure rfl rfl rfl rfl (op_nilCheck rfl rfl) ?_
    refine TL_pure rfl rfl rfl rfl (op_fieldAddr fa41_1 rfl rfl) ?_
    refine TL_pure rfl rfl rfl rfl (op_load_one ag26 rfl rfl) ?_
    refine TL_pure rfl rfl rfl rfl (op_lenT Try.underlying26 rfl (List.length_map _)) ?_
    refine TL_fact (fun _ _ _ hr => RelP.slLen (i := 11) rfl hr) (fun hlen12 => ?_)
    rw [List.length_map] at hlen12
    refine TL_pure rfl rfl rfl rfl (op_lss rfl rfl) ?_
    refine TL_nil ?_
    refine T_cond rfl (fun hq => ?_) (fun hq => ?_)
    · replace hm := condT hq hm
      refine T_skip ?_
      refine T_seq ?_
      refine T_block ?_
      refine T_seq ?_
      refine T_drawZ [] mix (by kernel_rfl) rfl ?_
      obtain ⟨x21, hx21, hm⟩ := bindS hm
      obtain ⟨r31, hr31, hm⟩ := bindS hm
      refine TZ_pure 0 (by kernel_rfl) rfl rfl rfl rfl rfl (op_move rfl) ?_
      refine TZ_pure 1 (by kernel_rfl) rfl rfl rfl rfl rfl (op_nilCheck rfl rfl) ?_
      refine TZ_pure 2 (by kernel_rfl) rfl rfl rfl rfl rfl (op_fieldAddr fa41_1 rfl rfl) ?_
      refine TZ_pure 3 (by kernel_rfl) rfl rfl rfl rfl rfl (op_load_one ag26 rfl rfl) ?_
      refine TZ_pure 4 (by kernel_rfl) rfl rfl rfl rfl rfl (op_move rfl) ?_
      refine TZ_pure 5 (by kernel_rfl) rfl rfl rfl rfl rfl (op_indexT el26 rfl rfl hx21 rfl) ?_
      refine TZ_pure 6 (by kernel_rfl) rfl rfl rfl rfl rfl (op_load_one ag2 rfl rfl) ?_
      refine TZ_pure 7 (by kernel_rfl) rfl rfl rfl rfl rfl (op_move rfl) ?_
      refine TZ_pure 8 (by kernel_rfl) rfl rfl rfl rfl rfl (op_nilCheck rfl rfl) ?_
      refine TZ_pure 9 (by kernel_rfl) rfl rfl rfl rfl rfl (op_fieldAddr fa41_1 rfl rfl) ?_
      refine TZ_pure 10 (by kernel_rfl) rfl rfl rfl rfl rfl (op_load_one ag26 rfl rfl) ?_
      refine TZ_pure 11 (by kernel_rfl) rfl rfl rfl rfl rfl (op_move rfl) ?_
      refine TZ_pure 12 (by kernel_rfl) rfl rfl rfl rfl rfl (op_indexT el26 rfl rfl hx21 rfl) ?_
      refine TZ_pure 13 (by kernel_rfl) rfl rfl rfl rfl rfl (op_load_one ag2 rfl rfl) ?_
      refine TZ_pure 14 (by kernel_rfl) rfl rfl rfl rfl rfl (op_negW rfl) ?_
      refine TZ_one 15 (by kernel_rfl) rfl ?_
      refine TL_callF (c_spec_l00Max x21 (w64 (0 - x21)) r31 hr31) Try.call121 rfl rfl rfl rfl rfl ?_
      refine TL_nil ?_
      refine TZ_pure 16 (by kernel_rfl) rfl rfl rfl rfl rfl (op_assign rfl) ?_
      refine TZ_done (by kernel_rfl) ?_
      refine T_block ?_
      refine T_keepH [0, 3, 4, 5] [] rfl rfl rfl rfl (by rw [hF]; rfl) ?_
      refine T_loop ?_
      obtain ⟨u1, hl1, hm⟩ := bindS hm
      refine TR_iter2 (m_spec_l02Divisor_L1) (fun (s1 : Int × Int) => ⟨[(0, .cp [.int .i64 p0.Const, .sl 1 (List.map a_i64 p0.Coeffs)]), (3, .int .i64 s1.1), (4, .int .i64 s0.2), (5, .int .i64 s1.2)], []⟩) (fun u1 => .exit 2) (fun u1 => ⟨[(0, .cp [.int .i64 p0.Const, .sl 1 (List.map a_i64 p0.Coeffs)]), (3, .int .i64 u1), (4, .int .i64 s0.2)], []⟩) (fun u1 => m_spec_l02Divisor_A1 s0 u1 = some c0) hl1 hm (fun u1 hm => ?_) (fun hx1 s1 c1 hm hc1 => ?_)
      · unfold m_spec_l02Divisor_A1 at hm
        refine T_region ?_
        refine TL_pure rfl rfl rfl rfl (op_move rfl) ?_
        refine TL_pure rfl rfl rfl rfl (op_addW rfl rfl) ?_
        refine TL_pure rfl rfl rfl rfl (op_assign rfl) ?_
        refine TL_nil ?_
        refine TR_keepH [0, 3, 4] [] rfl rfl rfl rfl (by rw [hF]; rfl) ?_
        obtain rfl := someI hm
        have hn := CtlOK_next hc0
        exact hn _ rfl
      · unfold m_spec_l02Divisor_L1 at hm
        refine T_seq ?_
        refine T_seq ?_
        refine T_region ?_
        refine TL_pure rfl rfl rfl rfl (op_move rfl) ?_
        refine TL_pure rfl rfl rfl rfl (op_gtr rfl rfl) ?_
        refine TL_nil ?_
        refine T_cond rfl (fun hq => ?_) (fun hq => ?_)
        · replace hm := condT hq hm
          refine T_skip ?_
          refine T_block ?_
          refine T_seq ?_
          refine T_region ?_
          refine TL_pure rfl rfl rfl rfl (op_move rfl) ?_
          refine TL_pure rfl rfl rfl rfl (op_move rfl) ?_
          obtain ⟨q36, hq36, hm⟩ := bindS hm
          refine TL_pure rfl rfl rfl rfl (op_remT rfl rfl hq36) ?_
          refine TL_pure rfl rfl rfl rfl (op_assign rfl) ?_
          refine TL_nil ?_
          refine T_seq ?_
          refine T_region ?_
          refine TL_pure rfl rfl rfl rfl (op_move rfl) ?_
          refine TL_pure rfl rfl rfl rfl (op_assign rfl) ?_
          refine TL_nil ?_
          refine T_region ?_
          refine TL_pure rfl rfl rfl rfl (op_move rfl) ?_
          refine TL_pure rfl rfl rfl rfl (op_assign rfl) ?_
          refine TL_nil ?_
          refine TR_keepH [0, 3, 4, 5] [] rfl rfl rfl rfl (by rw [hF]; rfl) ?_
          obtain rfl := someI hm
          have hn := CtlOK_next hc1
          exact hn _ rfl
        · replace hm := condF hq hm
          refine T_keepH [0, 3, 4] [] rfl rfl rfl rfl (by rw [hF]; rfl) ?_
          refine T_exit ?_
          obtain rfl := someI hm
          have hn := CtlOK_out hc1
          exact hx1 s1.1 hn
    · replace hm := condF hq hm
      refine T_keepH [3] [] rfl rfl rfl rfl (by rw [hF]; rfl) ?_
      refine T_exit ?_
      obtain rfl := someI hm
      have hn := CtlOK_out hc0
      exact hx0 s0.1 hn

theorem c_spec_l02Tight (p0 : Term) (out : Term × Bool) (hm : m_spec_l02Tight p0 = some out) : ACall Try.prog 80 [.cp [.int .i64 p0.Const, .sl 1 (List.map a_i64 p0.Coeffs)]] [] (.tup [.agg [.int .i64 out.1.Const, .ow 1000], .bool out.2]) [(1000, .arr ⟨false, true⟩ 1 2 (List.map a_i64 out.1.Coeffs))] := by
  refine ACall.intro Try.func80 rfl Try.ntmps80 rfl (fun F hF => ?_)
  unfold m_spec_l02Tight at hm
  refine T_seq ?_
  refine T_region ?_
  refine TL_alloc 11 z41 rfl rfl rfl rfl rfl rfl rfl ?_
  refine TL_pure rfl rfl rfl rfl (op_assign rfl) ?_
  refine TL_nil ?_
  refine T_seq ?_
  refine T_region ?_
  refine TL_pure rfl rfl rfl rfl (op_move rfl) ?_
  obtain ⟨r9, hr9, hm⟩ := bindS hm
  refine TL_callF (c_spec_l02Divisor p0 r9 hr9) Try.call108 rfl rfl rfl rfl rfl ?_
  refine TL_pure rfl rfl rfl rfl (op_assign rfl) ?_
  refine TL_nil ?_
  refine T_seq ?_
  refine T_seq ?_
  refine T_region ?_
  refine TL_pure rfl rfl rfl rfl (op_move rfl) ?_
  refine TL_pure rfl rfl rfl rfl (op_lss rfl rfl) ?_
  refine TL_nil ?_
  refine T_cond rfl (fun hq => ?_) (fun hq => ?_)
  · replace hm := condT hq hm
    refine T_seq ?_
    refine T_region ?_
    refine TL_pure rfl rfl rfl rfl (op_buildP pl41 z41 rfl rfl rfl rfl rfl) ?_
    refine TL_store_box sz41 rfl rfl rfl rfl rfl rfl rfl rfl rfl ?_
    refine TL_pure rfl rfl rfl rfl (op_assign rfl) ?_
    refine TL_nil ?_
    refine T_ownNilBox 11 1 12 ⟨false, true⟩ 2 rfl rfl rfl (sz := 1) rfl rfl rfl rfl ?_
    refine T_keepH [2, 3] [11, 12] rfl rfl rfl rfl (by rw [hF]; rfl) ?_
    refine T_ren [(11, 11), (12, 1000)] rfl rfl rfl (by rw [hF]; rfl) ?_
    refine T_ret ?_
    obtain rfl := someI hm
    refine ⟨[_, _], [1000], ⟨⟨_, _, rfl, rfl, .inr ⟨ag41, _, _, sz41, rfl, rfl⟩⟩, rfl, trivial⟩, ?_, rfl, rfl, rfl, rfl⟩
    rfl
  · replace hm := condF hq hm
    refine T_skip ?_
    refine T_seq ?_
    refine T_region ?_
    refine TL_buildSlice 13 (es := List.map a_i64 ([] : List Int)) el26 z2 rfl rfl rfl rfl rfl rfl rfl rfl rfl ?_
    refine TL_pure rfl rfl rfl rfl (op_assign rfl) ?_
    refine TL_nil ?_
    refine T_seq ?_
    refine T_seq ?_
    refine T_region ?_
    refine TL_pure rfl rfl rfl rfl (op_assign rfl) ?_
    refine TL_nil ?_
    refine T_block ?_
    refine T_keepH [0, 2, 4, 5, 6] [11, 13] rfl rfl rfl rfl (by rw [hF]; rfl) ?_
    refine T_loop ?_
    obtain ⟨u0, hl0, hm⟩ := bindS hm
    refine TR_iter2 (m_spec_l02Tight_L0 p0 r9) (fun (s0 : (List Int) × Int) => ⟨[(0, .cp [.int .i64 p0.Const, .sl 1 (List.map a_i64 p0.Coeffs)]), (2, .ptr 11 0 0), (4, .int .i64 r9), (5, .ow 13), (6, .int .i64 s0.2)], [(11, .box [.int .i64 (0 : Int), .snil]), (13, .arr ⟨false, false⟩ 1 2 (List.map a_i64 s0.1))]⟩) (fun u0 => .exit 0) (fun u0 => ⟨[(0, .cp [.int .i64 p0.Const, .sl 1 (List.map a_i64 p0.Coeffs)]), (2, .ptr 11 0 0), (4, .int .i64 r9), (5, .ow 13)], [(11, .box [.int .i64 (0 : Int), .snil]), (13, .arr ⟨false, false⟩ 1 2 (List.map a_i64 u0))]⟩) (fun u0 => m_spec_l02Tight_A0 p0 r9 u0 = some out) hl0 hm (fun u0 hm => ?_) (fun hx0 s0 c0 hm hc0 => ?_)
    · unfold m_spec_l02Tight_A0 at hm
      refine T_seq ?_
      refine T_region ?_
      refine TL_pure rfl rfl rfl rfl (op_move rfl) ?_
      refine TL_pure rfl rfl rfl rfl (op_nilCheck rfl rfl) ?_
      refine TL_pure rfl rfl rfl rfl (op_fieldAddrC (n := 1) fa41_0 rfl rfl rfl) ?_
      refine TL_pure rfl rfl rfl rfl (op_load_one ag2 rfl rfl) ?_
      refine TL_pure rfl rfl rfl rfl (op_move rfl) ?_
      obtain ⟨q40, hq40, hm⟩ := bindS hm
      refine TL_pure rfl rfl rfl rfl (op_quoT rfl rfl hq40) ?_
      refine TL_pure rfl rfl rfl rfl (op_assign rfl) ?_
      refine TL_nil ?_
      refine T_join (fun (j0 : Int) => ⟨[(2, .ptr 11 0 0), (5, .ow 13), (7, .int .i64 j0)], [(11, .box [.int .i64 (0 : Int), .snil]), (13, .arr ⟨false, false⟩ 1 2 (List.map a_i64 u0))]⟩) (fun j0 => m_spec_l02Tight_J0 u0 j0 = some out) (fun j0 hm => ?_) (fun hj0 => ?_)
      · unfold m_spec_l02Tight_J0 at hm
        refine T_seq ?_
        refine T_region ?_
        refine TL_pure rfl rfl rfl rfl (op_move rfl) ?_
        refine TL_pure rfl rfl rfl rfl (op_move rfl) ?_
        obtain ⟨r52, hr52, hm⟩ := bindS hm
        refine TL_callO [(1000, 17)] (c_spec_l02Make j0 u0 r52 hr52) Try.call45 rfl rfl rfl rfl rfl rfl rfl rfl rfl rfl rfl rfl rfl ?_
        refine TL_pure rfl rfl rfl rfl (op_extract rfl rfl) ?_
        refine TL_pure rfl rfl rfl rfl (op_extract rfl rfl) ?_
        refine TL_store_box sz41 rfl rfl rfl rfl rfl rfl rfl rfl rfl ?_
        refine TL_pure rfl rfl rfl rfl (op_assign rfl) ?_
        refine TL_nil ?_
        refine T_keepH [2, 3] [11, 17] rfl rfl rfl rfl (by rw [hF]; rfl) ?_
        refine T_ren [(11, 11), (17, 1000)] rfl rfl rfl (by rw [hF]; rfl) ?_
        refine T_ret ?_
        obtain rfl := someI hm
        refine ⟨[_, _], [1000], ⟨⟨_, _, rfl, rfl, .inr ⟨ag41, _, _, sz41, rfl, rfl⟩⟩, rfl, trivial⟩, ?_, rfl, rfl, rfl, rfl⟩
        rfl
      · refine T_seq ?_
        refine T_region ?_
        refine TL_pure rfl rfl rfl rfl (op_move rfl) ?_
        refine TL_pure rfl rfl rfl rfl (op_nilCheck rfl rfl) ?_
        refine TL_pure rfl rfl rfl rfl (op_fieldAddrC (n := 1) fa41_0 rfl rfl rfl) ?_
        refine TL_pure rfl rfl rfl rfl (op_load_one ag2 rfl rfl) ?_
        refine TL_pure rfl rfl rfl rfl (op_move rfl) ?_
        obtain ⟨q46, hq46, hm⟩ := bindS hm
        refine TL_pure rfl rfl rfl rfl (op_remT rfl rfl hq46) ?_
        refine TL_pure rfl rfl rfl rfl (op_lss rfl rfl) ?_
        refine TL_nil ?_
        refine T_cond rfl (fun hq => ?_) (fun hq => ?_)
        · replace hm := condT hq hm
          refine T_region ?_
          refine TL_pure rfl rfl rfl rfl (op_move rfl) ?_
          refine TL_pure rfl rfl rfl rfl (op_subW rfl rfl) ?_
          refine TL_pure rfl rfl rfl rfl (op_assign rfl) ?_
          refine TL_nil ?_
          refine T_keepH [2, 5, 7] [11, 13] rfl rfl rfl rfl (by rw [hF]; rfl) ?_
          exact hj0 (w64 (q40 - (1 : Int))) hm
        · replace hm := condF hq hm
          refine T_skip ?_
          refine T_keepH [2, 5, 7] [11, 13] rfl rfl rfl rfl (by rw [hF]; rfl) ?_
          exact hj0 q40 hm
    · unfold m_spec_l02Tight_L0 at hm
      refine T_seq ?_
      refine T_seq ?_
      refine T_region ?_
      refine TL_pure rfl rfl rfl rfl (op_move rfl) ?_
      refine TL_pure rfl rfl rfl rfl (op_move rfl) ?_
      refine TL_pure rfl rfl rfl rfl (op_nilCheck rfl rfl) ?_
      refine TL_pure rfl rfl rfl rfl (op_fieldAddr fa41_1 rfl rfl) ?_
      refine TL_pure rfl rfl rfl rfl (op_load_one ag26 rfl rfl) ?_
      refine TL_pure rfl rfl rfl rfl (op_lenT Try.underlying26 rfl (List.length_map _)) ?_
      refine TL_fact (fun _ _ _ hr => RelP.slLen (i := 18) rfl hr) (fun hlen19 => ?_)
      rw [List.length_map] at hlen19
      refine TL_pure rfl rfl rfl rfl (op_lss rfl rfl) ?_
      refine TL_nil ?_
      refine T_cond rfl (fun hq => ?_) (fun hq => ?_)
      · replace hm := condT hq hm
        refine T_skip ?_
        refine T_seq ?_
        refine T_block ?_
        refine T_region ?_
        refine TL_pure rfl rfl rfl rfl (op_move rfl) ?_
        refine TL_pure rfl rfl rfl rfl (op_move rfl) ?_
        refine TL_pure rfl rfl rfl rfl (op_nilCheck rfl rfl) ?_
        refine TL_pure rfl rfl rfl rfl (op_fieldAddr fa41_1 rfl rfl) ?_
        refine TL_pure rfl rfl rfl rfl (op_load_one ag26 rfl rfl) ?_
        refine TL_pure rfl rfl rfl rfl (op_move rfl) ?_
        obtain ⟨x29, hx29, hm⟩ := bindS hm
        refine TL_pure rfl rfl rfl rfl (op_indexT el26 rfl rfl hx29 rfl) ?_
        refine TL_pure rfl rfl rfl rfl (op_load_one ag2 rfl rfl) ?_
        refine TL_pure rfl rfl rfl rfl (op_move rfl) ?_
        obtain ⟨q32, hq32, hm⟩ := bindS hm
        refine TL_pure rfl rfl rfl rfl (op_quoT rfl rfl hq32) ?_
        refine TL_buildSlice 16 (es := List.map a_i64 [q32]) el26 z2 rfl rfl rfl rfl rfl rfl rfl rfl rfl ?_
        obtain ⟨q34, hq34, hm⟩ := bindS hm
        refine TL_appendT (f := a_i64) (a := s0.1) (b := [q32]) el26 z2 rfl rfl rfl rfl rfl rfl rfl (capI_spec hq34) rfl rfl rfl rfl rfl ?_
        refine TL_pure rfl rfl rfl rfl (op_assign rfl) ?_
        refine TL_nil ?_
        refine T_region ?_
        refine TL_pure rfl rfl rfl rfl (op_move rfl) ?_
        refine TL_pure rfl rfl rfl rfl (op_addW rfl rfl) ?_
        refine TL_pure rfl rfl rfl rfl (op_assign rfl) ?_
        refine TL_nil ?_
        refine TR_keepH [0, 2, 4, 5, 6] [11, 13] rfl rfl rfl rfl (by rw [hF]; rfl) ?_
        obtain rfl := someI hm
        have hn := CtlOK_next hc0
        exact hn _ rfl
      · replace hm := condF hq hm
        refine T_keepH [0, 2, 4, 5] [11, 13] rfl rfl rfl rfl (by rw [hF]; rfl) ?_
        refine T_exit ?_
        obtain rfl := someI hm
        have hn := CtlOK_out hc0
        exact hx0 s0.1 hn
end Go.Mod
