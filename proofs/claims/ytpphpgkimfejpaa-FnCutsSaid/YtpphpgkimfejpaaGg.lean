import Derived.Test.YtpphpgkimfejpaaGf
namespace Go.Mod
open Go Go.AM Go.Proofs
set_option linter.unusedVariables false
set_option linter.unusedSimpArgs false
set_option maxRecDepth 100000
set_option maxHeartbeats 8000000
theorem c_impl_cuts (p0 : Term) (p1 : List Term) (out : Term × Bool) (hm : m_impl_cuts p0 p1 = some out) : ACall Try.prog 109 [.agg [.int .i64 p0.Const, .sl 1 (List.map a_i64 p0.Coeffs)], .sl 2 (List.map a_Term p1)] [] (.tup [.agg [.int .i64 out.1.Const, .ow 1000], .bool out.2]) [(1000, .arr ⟨false, true⟩ 1 2 (List.map a_i64 out.1.Coeffs))] := by
  refine ACall.intro Try.func109 rfl Try.ntmps109 rfl (fun F hF => ?_)
  unfold m_impl_cuts at hm
  refine T_seq ?_
  refine T_region ?_
  refine TL_box 11 rfl rfl rfl rfl rfl rfl rfl ?_
  refine TL_alloc 12 z41 rfl rfl rfl rfl rfl rfl rfl ?_
  refine TL_pure rfl rfl rfl rfl (op_assign rfl) ?_
  refine TL_nil ?_
  refine T_seq ?_
  refine T_region ?_
  refine TL_pure rfl rfl rfl rfl (op_fieldAddr fa41_1 rfl rfl) ?_
  refine TL_pure rfl rfl rfl rfl (op_load_one ag26 rfl rfl) ?_
  obtain ⟨r11, hr11, hm⟩ := bindS hm
  refine TL_callF (c_impl_gcd p0.Coeffs r11 hr11) Try.call115 rfl rfl rfl rfl rfl ?_
  refine TL_pure rfl rfl rfl rfl (op_assign rfl) ?_
  refine TL_nil ?_
  refine T_seq ?_
  refine T_seq ?_
  refine T_region ?_
  refine TL_pure rfl rfl rfl rfl (op_move rfl) ?_
  refine TL_pure rfl rfl rfl rfl (op_leq rfl rfl) ?_
  refine TL_pure rfl rfl rfl rfl (op_move rfl) ?_
  refine TL_split 14 rfl rfl rfl (fun hq => ?_) (fun hq => ?_)
  · replace hm := condT hq hm
    refine TL_pass rfl rfl rfl rfl rfl rfl rfl ?_
    refine TL_pass rfl rfl rfl rfl rfl rfl rfl ?_
    refine TL_pass rfl rfl rfl rfl rfl rfl rfl ?_
    refine TL_pass rfl rfl rfl rfl rfl rfl rfl ?_
    refine TL_pass rfl rfl rfl rfl rfl rfl rfl ?_
    refine TL_pure rfl rfl rfl rfl (op_pick_true rfl rfl) ?_
    refine TL_nil ?_
    refine T_cond_true rfl ?_
    refine T_seq ?_
    refine T_region ?_
    refine TL_pure rfl rfl rfl rfl (op_buildP pl41 z41 rfl rfl rfl rfl rfl) ?_
    refine TL_store_box sz41 rfl rfl rfl rfl rfl rfl rfl rfl rfl ?_
    refine TL_pure rfl rfl rfl rfl (op_assign rfl) ?_
    refine TL_nil ?_
    refine T_ownNilBox 12 1 13 ⟨false, true⟩ 2 rfl rfl rfl (sz := 1) rfl rfl rfl rfl ?_
    refine T_keepH [4, 5] [12, 13] rfl rfl rfl rfl (by rw [hF]; rfl) ?_
    refine T_ren [(12, 12), (13, 1000)] rfl rfl rfl (by rw [hF]; rfl) ?_
    refine T_ret ?_
    obtain rfl := someI hm
    refine ⟨[_, _], [1000], ⟨⟨_, _, rfl, rfl, .inr ⟨ag41, _, _, sz41, rfl, rfl⟩⟩, rfl, trivial⟩, ?_, rfl, rfl, rfl, rfl⟩
    rfl
  · replace hm := condF hq hm
    refine TL_want rfl rfl ?_
    refine TL_pure rfl rfl rfl rfl (op_fieldAddr fa41_0 rfl rfl) ?_
    refine TL_want rfl rfl ?_
    refine TL_pure rfl rfl rfl rfl (op_load_one ag2 rfl rfl) ?_
    refine TL_want rfl rfl ?_
    refine TL_pure rfl rfl rfl rfl (op_move rfl) ?_
    refine TL_want rfl rfl ?_
    obtain ⟨q18, hq18, hm⟩ := bindS hm
    refine TL_pure rfl rfl rfl rfl (op_remT rfl rfl hq18) ?_
    refine TL_want rfl rfl ?_
    refine TL_pure rfl rfl rfl rfl (op_eql rfl rfl) ?_
    refine TL_pure rfl rfl rfl rfl (op_pick_false rfl rfl) ?_
    refine TL_nil ?_
    refine T_cond rfl (fun hq => ?_) (fun hq => ?_)
    · replace hm := condT hq hm
      refine T_seq ?_
      refine T_region ?_
      refine TL_pure rfl rfl rfl rfl (op_buildP pl41 z41 rfl rfl rfl rfl rfl) ?_
      refine TL_store_box sz41 rfl rfl rfl rfl rfl rfl rfl rfl rfl ?_
      refine TL_pure rfl rfl rfl rfl (op_assign rfl) ?_
      refine TL_nil ?_
      refine T_ownNilBox 12 1 14 ⟨false, true⟩ 2 rfl rfl rfl (sz := 1) rfl rfl rfl rfl ?_
      refine T_keepH [4, 5] [12, 14] rfl rfl rfl rfl (by rw [hF]; rfl) ?_
      refine T_ren [(12, 12), (14, 1000)] rfl rfl rfl (by rw [hF]; rfl) ?_
      refine T_ret ?_
      obtain rfl := someI hm
      refine ⟨[_, _], [1000], ⟨⟨_, _, rfl, rfl, .inr ⟨ag41, _, _, sz41, rfl, rfl⟩⟩, rfl, trivial⟩, ?_, rfl, rfl, rfl, rfl⟩
      rfl
    · replace hm := condF hq hm
      refine T_skip ?_
      refine T_seq ?_
      refine T_region ?_
      refine TL_pure rfl rfl rfl rfl (op_load_agg ag41 sz41 rfl rfl rfl) ?_
      obtain ⟨r24, hr24, hm⟩ := bindS hm
      refine TL_callO [(1000, 15)] (c_impl_Term_tightened p0 r24 hr24) Try.call122 rfl rfl rfl rfl rfl rfl rfl rfl rfl rfl rfl rfl rfl ?_
      refine TL_pure rfl rfl rfl rfl (op_move rfl) ?_
      refine TL_pure rfl rfl rfl rfl (op_extract rfl rfl) ?_
      refine TL_pure rfl rfl rfl rfl (op_extract rfl rfl) ?_
      refine TL_alloc 16 z41 rfl rfl rfl rfl rfl rfl rfl ?_
      refine TL_store_box sz41 rfl rfl rfl rfl rfl rfl rfl rfl rfl ?_
      refine TL_pure rfl rfl rfl rfl (op_assign rfl) ?_
      refine TL_nil ?_
      refine T_seq ?_
      refine T_drawZ [8] mix (by kernel_rfl) rfl ?_
      refine TZ_pure 0 (by kernel_rfl) rfl rfl rfl rfl rfl (op_load_agg ag41 sz41 rfl rfl rfl) ?_
      refine TZ_pure 1 (by kernel_rfl) rfl rfl rfl rfl rfl (op_move rfl) ?_
      refine TZ_pure 2 (by kernel_rfl) rfl rfl rfl rfl rfl (op_move rfl) ?_
      refine TZ_split 29 rfl rfl rfl (fun hq => ?_) (fun hq => ?_)
      · replace hm := condT hq hm
        obtain ⟨r32, hr32, hm⟩ := bindS hm
        refine TZ_pureW 3 (by kernel_rfl) rfl rfl rfl rfl rfl rfl rfl (op_move rfl) ?_
        refine TZ_one 4 (by kernel_rfl) rfl ?_
        refine TL_want rfl rfl ?_
        refine TL_pure rfl rfl rfl rfl (op_load_agg ag41 sz41 rfl rfl rfl) ?_
        refine TL_nil ?_
        refine TZ_one 5 (by kernel_rfl) rfl ?_
        refine TL_want rfl rfl ?_
        refine TL_callF (c_impl_hasTerm p1 r24.1 r32 hr32) Try.call123 rfl rfl rfl rfl rfl ?_
        refine TL_nil ?_
        refine TZ_pureW 6 (by kernel_rfl) rfl rfl rfl rfl rfl rfl rfl (op_not rfl) ?_
        refine TZ_pure 7 (by kernel_rfl) rfl rfl rfl rfl rfl (op_pick_true rfl rfl) ?_
        refine TZ_one 8 (by kernel_rfl) rfl ?_
        refine TL_store_box sz41 rfl rfl rfl rfl rfl rfl rfl rfl rfl ?_
        refine TL_nil ?_
        refine TZ_pure 9 (by kernel_rfl) rfl rfl rfl rfl rfl (op_assign rfl) ?_
        refine TZ_done (by kernel_rfl) ?_
        refine T_keepH [4, 5] [12, 15] rfl rfl rfl rfl (by rw [hF]; rfl) ?_
        refine T_ren [(12, 12), (15, 1000)] rfl rfl rfl (by rw [hF]; rfl) ?_
        refine T_ret ?_
        obtain rfl := someI hm
        refine ⟨[_, _], [1000], ⟨⟨_, _, rfl, rfl, .inr ⟨ag41, _, _, sz41, rfl, rfl⟩⟩, rfl, trivial⟩, ?_, rfl, rfl, rfl, rfl⟩
        rfl
      · replace hm := condF hq hm
        refine TZ_pass 3 (by kernel_rfl) rfl rfl rfl rfl rfl rfl rfl rfl ?_
        refine TZ_one 4 (by kernel_rfl) rfl ?_
        refine TL_pass rfl rfl rfl rfl rfl rfl rfl ?_
        refine TL_nil ?_
        refine TZ_one 5 (by kernel_rfl) rfl ?_
        refine TL_pass rfl rfl rfl rfl rfl rfl rfl ?_
        refine TL_nil ?_
        refine TZ_pass 6 (by kernel_rfl) rfl rfl rfl rfl rfl rfl rfl rfl ?_
        refine TZ_pure 7 (by kernel_rfl) rfl rfl rfl rfl rfl (op_pick_false rfl rfl) ?_
        refine TZ_one 8 (by kernel_rfl) rfl ?_
        refine TL_store_box sz41 rfl rfl rfl rfl rfl rfl rfl rfl rfl ?_
        refine TL_nil ?_
        refine TZ_pure 9 (by kernel_rfl) rfl rfl rfl rfl rfl (op_assign rfl) ?_
        refine TZ_done (by kernel_rfl) ?_
        refine T_keepH [4, 5] [12, 15] rfl rfl rfl rfl (by rw [hF]; rfl) ?_
        refine T_ren [(12, 12), (15, 1000)] rfl rfl rfl (by rw [hF]; rfl) ?_
        refine T_ret ?_
        obtain rfl := someI hm
        refine ⟨[_, _], [1000], ⟨⟨_, _, rfl, rfl, .inr ⟨ag41, _, _, sz41, rfl, rfl⟩⟩, rfl, trivial⟩, ?_, rfl, rfl, rfl, rfl⟩
        rfl
theorem c_impl_firstCut (p0 : List Term) (out : Term × combination × Bool) (hm : m_impl_firstCut p0 = some out) : ACall Try.prog 66 [.sl 2 (List.map a_Term p0)] [] (.tup [.agg [.int .i64 out.1.Const, .ow 1000], .agg [.int .i64 out.2.1.term.Const, .sl 1 (List.map a_i64 out.2.1.term.Coeffs), .sl 1 (List.map a_i64 out.2.1.by_)], .bool out.2.2]) [(1000, .arr ⟨false, true⟩ 1 2 (List.map a_i64 out.1.Coeffs))] := by
  refine ACall.intro Try.func66 rfl Try.ntmps66 rfl (fun F hF => ?_)
  unfold m_impl_firstCut at hm
  refine T_seq ?_
  refine T_region ?_
  refine TL_alloc 11 z41 rfl rfl rfl rfl rfl rfl rfl ?_
  refine TL_alloc 12 z77 rfl rfl rfl rfl rfl rfl rfl ?_
  refine TL_pure rfl rfl rfl rfl (op_assign rfl) ?_
  refine TL_nil ?_
  refine T_seq ?_
  refine T_region ?_
  refine TL_pure rfl rfl rfl rfl (op_move rfl) ?_
  obtain ⟨r14, hr14, hm⟩ := bindS hm
  refine TL_callO [(1000, 13)] (c_impl_allSymbols (10 : Int) r14 hr14) Try.call50 rfl rfl rfl rfl rfl rfl rfl rfl rfl rfl rfl rfl rfl ?_
  refine TL_freeze 13 (by rw [hF]; rfl) rfl rfl rfl ?_
  obtain ⟨r15, hr15, hm⟩ := bindS hm
  refine TL_callT (c_impl_eliminated p0 r14 r15 hr15) Try.call49 rfl rfl rfl rfl rfl ?_
  refine TL_pure rfl rfl rfl rfl (op_move rfl) ?_
  refine TL_pure rfl rfl rfl rfl (op_extract rfl rfl) ?_
  refine TL_pure rfl rfl rfl rfl (op_extract rfl rfl) ?_
  refine TL_pure rfl rfl rfl rfl (op_extract rfl rfl) ?_
  refine TL_pure rfl rfl rfl rfl (op_assign rfl) ?_
  refine TL_pure rfl rfl rfl rfl (op_assign rfl) ?_
  refine TL_pure rfl rfl rfl rfl (op_assign rfl) ?_
  refine TL_nil ?_
  refine T_seq ?_
  refine T_seq ?_
  refine T_region ?_
  refine TL_pure rfl rfl rfl rfl (op_move rfl) ?_
  refine TL_pure rfl rfl rfl rfl (op_not rfl) ?_
  refine TL_nil ?_
  refine T_cond rfl (fun hq => ?_) (fun hq => ?_)
  · replace hm := condT hq hm
    refine T_seq ?_
    refine T_region ?_
    refine TL_pure rfl rfl rfl rfl (op_buildP pl41 z41 rfl rfl rfl rfl rfl) ?_
    refine TL_pure rfl rfl rfl rfl (op_buildP pl77 z77 rfl rfl rfl rfl rfl) ?_
    refine TL_store_box sz41 rfl rfl rfl rfl rfl rfl rfl rfl rfl ?_
    refine TL_store_box sz77 rfl rfl rfl rfl rfl rfl rfl rfl rfl ?_
    refine TL_pure rfl rfl rfl rfl (op_assign rfl) ?_
    refine TL_nil ?_
    refine T_ownNilBox 11 1 14 ⟨false, true⟩ 2 rfl rfl rfl (sz := 1) rfl rfl rfl rfl ?_
    refine T_keepH [2, 3, 4] [11, 12, 14] rfl rfl rfl rfl (by rw [hF]; rfl) ?_
    refine T_nilBox 12 (cs' := [.int .i64 (0 : Int), .sl 1 (List.map a_i64 ([] : List Int)), .sl 1 (List.map a_i64 ([] : List Int))]) rfl (⟨_, _, rfl, rfl, ⟨_, _, rfl, .inr ⟨_, rfl⟩, ⟨_, _, rfl, .inr ⟨_, rfl⟩, rfl⟩⟩⟩) rfl ?_
    refine T_ren [(11, 11), (12, 12), (14, 1000)] rfl rfl rfl (by rw [hF]; rfl) ?_
    refine T_ret ?_
    obtain rfl := someI hm
    refine ⟨[_, _, _], [1000], ⟨⟨_, _, rfl, rfl, .inr ⟨ag41, _, _, sz41, rfl, rfl⟩⟩, ⟨_, _, rfl, rfl, .inr ⟨ag77, _, _, sz77, rfl, rfl⟩⟩, rfl, trivial⟩, ?_, rfl, rfl, rfl, rfl⟩
    rfl
  · replace hm := condF hq hm
    refine T_skip ?_
    refine T_seq ?_
    refine T_seq ?_
    refine T_region ?_
    refine TL_pure rfl rfl rfl rfl (op_move rfl) ?_
    refine TL_pure rfl rfl rfl rfl (op_lenT Try.underlying71 rfl (List.length_map _)) ?_
    refine TL_fact (fun _ _ _ hr => RelP.slLen (i := 23) rfl hr) (fun hlen24 => ?_)
    rw [List.length_map] at hlen24
    refine TL_pure rfl rfl rfl rfl (op_move rfl) ?_
    refine TL_nil ?_
    refine T_block ?_
    refine T_keepH [0, 2, 3, 23, 24, 25] [11, 12] rfl rfl rfl rfl (by rw [hF]; rfl) ?_
    refine T_loop ?_
    obtain ⟨u0, hl0, hm⟩ := bindS hm
    refine TR_forL2 r15.2.1 (m_impl_firstCut_L0 p0) (fun (s0 : Unit) => (.inl ())) (fun n0 (s0 : Unit) => ⟨[(0, .sl 2 (List.map a_Term p0)), (2, .ptr 11 0 0), (3, .ptr 12 0 0), (23, .sl 3 (List.map a_combination r15.2.1)), (24, .int .i64 (r15.2.1.length : Int)), (25, .int .i64 (n0 : Int))], [(11, .box [.int .i64 (0 : Int), .snil]), (12, .box [.int .i64 (0 : Int), .snil, .snil])]⟩) (fun u0 => match u0 with | .inl u0 => .exit 0 | .inr u0 => .ret) (fun u0 => match u0 with | .inl u0 => ⟨[(2, .ptr 11 0 0), (3, .ptr 12 0 0)], [(11, .box [.int .i64 (0 : Int), .snil]), (12, .box [.int .i64 (0 : Int), .snil, .snil])]⟩ | .inr u0 => ⟨[(2, .ptr 11 0 0), (3, .ptr 12 0 0), (4, .bool u0.2.2.2.2.2)], [(11, .box [.int .i64 u0.1, .ow 1000]), (12, .box [.int .i64 u0.2.2.1, .sl 1 (List.map a_i64 u0.2.2.2.1), .sl 1 (List.map a_i64 u0.2.2.2.2.1)]), (1000, .arr ⟨false, true⟩ 1 2 (List.map a_i64 u0.2.1))]⟩) (fun u0 => m_impl_firstCut_A0 u0 = some out) hl0 hm (fun u0 hm => ?_) (fun hx0 s0 hm => ?_) (fun hx0 n0 x0 s0 c0 hxn0 hlt0 hm hc0 => ?_)
    · rcases u0 with u0 | u0
      · unfold m_impl_firstCut_A0 at hm
        refine T_seq ?_
        refine T_region ?_
        refine TL_pure rfl rfl rfl rfl (op_buildP pl41 z41 rfl rfl rfl rfl rfl) ?_
        refine TL_pure rfl rfl rfl rfl (op_buildP pl77 z77 rfl rfl rfl rfl rfl) ?_
        refine TL_store_box sz41 rfl rfl rfl rfl rfl rfl rfl rfl rfl ?_
        refine TL_store_box sz77 rfl rfl rfl rfl rfl rfl rfl rfl rfl ?_
        refine TL_pure rfl rfl rfl rfl (op_assign rfl) ?_
        refine TL_nil ?_
        refine T_ownNilBox 11 1 21 ⟨false, true⟩ 2 rfl rfl rfl (sz := 1) rfl rfl rfl rfl ?_
        refine T_keepH [2, 3, 4] [11, 12, 21] rfl rfl rfl rfl (by rw [hF]; rfl) ?_
        refine T_nilBox 12 (cs' := [.int .i64 (0 : Int), .sl 1 (List.map a_i64 ([] : List Int)), .sl 1 (List.map a_i64 ([] : List Int))]) rfl (⟨_, _, rfl, rfl, ⟨_, _, rfl, .inr ⟨_, rfl⟩, ⟨_, _, rfl, .inr ⟨_, rfl⟩, rfl⟩⟩⟩) rfl ?_
        refine T_ren [(11, 11), (12, 12), (21, 1000)] rfl rfl rfl (by rw [hF]; rfl) ?_
        refine T_ret ?_
        obtain rfl := someI hm
        refine ⟨[_, _, _], [1000], ⟨⟨_, _, rfl, rfl, .inr ⟨ag41, _, _, sz41, rfl, rfl⟩⟩, ⟨_, _, rfl, rfl, .inr ⟨ag77, _, _, sz77, rfl, rfl⟩⟩, rfl, trivial⟩, ?_, rfl, rfl, rfl, rfl⟩
        rfl
      · unfold m_impl_firstCut_A0 at hm
        obtain rfl := someI hm
        refine ⟨[_, _, _], [1000], ⟨⟨_, _, rfl, rfl, .inr ⟨ag41, _, _, sz41, rfl, rfl⟩⟩, ⟨_, _, rfl, rfl, .inr ⟨ag77, _, _, sz77, rfl, rfl⟩⟩, rfl, trivial⟩, ?_, rfl, rfl, rfl, rfl⟩
        rfl
    · refine T_seq ?_
      refine T_region ?_
      refine TL_pure rfl rfl rfl rfl (op_lss rfl rfl) ?_
      refine TL_nil ?_
      refine T_seq ?_
      refine T_if_false rfl (decide_eq_false (by simp)) ?_
      refine T_keepH [2, 3] [11, 12] rfl rfl rfl rfl (by rw [hF]; rfl) ?_
      refine T_exit ?_
      exact hx0 (.inl ()) hm
    · unfold m_impl_firstCut_L0 at hm
      refine T_seq ?_
      refine T_region ?_
      refine TL_pure rfl rfl rfl rfl (op_lss rfl rfl) ?_
      refine TL_nil ?_
      refine T_seq ?_
      refine T_if_true rfl (decide_eq_true (Int.ofNat_lt.2 hlt0)) ?_
      refine T_skip ?_
      refine T_seq ?_
      refine T_block ?_
      refine T_seq ?_
      refine T_region ?_
      refine TL_pure rfl rfl rfl rfl (op_index_sl el71 rfl rfl rfl (get_map hxn0) rfl) ?_
      refine TL_pure rfl rfl rfl rfl (op_load_agg ag77 sz77 rfl rfl rfl) ?_
      refine TL_alloc 18 z77 rfl rfl rfl rfl rfl rfl rfl ?_
      refine TL_store_box sz77 rfl rfl rfl rfl rfl rfl rfl rfl rfl ?_
      refine TL_nil ?_
      refine T_seq ?_
      refine T_region ?_
      refine TL_pure rfl rfl rfl rfl (op_fieldAddr fa77_0 rfl rfl) ?_
      refine TL_pure rfl rfl rfl rfl (op_load_agg ag41 sz41 rfl rfl rfl) ?_
      refine TL_pure rfl rfl rfl rfl (op_move rfl) ?_
      obtain ⟨r33, hr33, hm⟩ := bindS hm
      refine TL_callO [(1000, 19)] (c_impl_cuts x0.term p0 r33 hr33) Try.call109 rfl rfl rfl rfl rfl rfl rfl rfl rfl rfl rfl rfl rfl ?_
      refine TL_pure rfl rfl rfl rfl (op_move rfl) ?_
      refine TL_pure rfl rfl rfl rfl (op_extract rfl rfl) ?_
      refine TL_pure rfl rfl rfl rfl (op_extract rfl rfl) ?_
      refine TL_alloc 20 z41 rfl rfl rfl rfl rfl rfl rfl ?_
      refine TL_store_box sz41 rfl rfl rfl rfl rfl rfl rfl rfl rfl ?_
      refine TL_pure rfl rfl rfl rfl (op_assign rfl) ?_
      refine TL_nil ?_
      refine T_seq ?_
      refine T_region ?_
      refine TL_pure rfl rfl rfl rfl (op_move rfl) ?_
      refine TL_nil ?_
      refine T_cond rfl (fun hq => ?_) (fun hq => ?_)
      · replace hm := condT hq hm
        refine T_seq ?_
        refine T_drawZ [2, 3] mix (by kernel_rfl) rfl ?_
        refine TZ_pure 0 (by kernel_rfl) rfl rfl rfl rfl rfl (op_load_agg ag41 sz41 rfl rfl rfl) ?_
        refine TZ_each [1, 2] (by kernel_rfl) rfl ?_
        refine ⟨?_, ?_⟩
        · refine ⟨_, rfl, ?_⟩
          refine TL_pure rfl rfl rfl rfl (op_load_agg ag77 sz77 rfl rfl rfl) ?_
          refine TL_nil ?_
          refine TZ_one 2 (by kernel_rfl) rfl ?_
          refine TL_store_box sz41 rfl rfl rfl rfl rfl rfl rfl rfl rfl ?_
          refine TL_nil ?_
          refine TZ_one 3 (by kernel_rfl) rfl ?_
          refine TL_store_box sz77 rfl rfl rfl rfl rfl rfl rfl rfl rfl ?_
          refine TL_nil ?_
          refine TZ_pure 4 (by kernel_rfl) rfl rfl rfl rfl rfl (op_assign rfl) ?_
          refine TZ_done (by kernel_rfl) ?_
          refine T_keepH [2, 3, 4] [11, 12, 19] rfl rfl rfl rfl (by rw [hF]; rfl) ?_
          refine T_ren [(11, 11), (12, 12), (19, 1000)] rfl rfl rfl (by rw [hF]; rfl) ?_
          refine T_ret ?_
          obtain rfl := someI hm
          have hn := CtlOK_out hc0
          exact hx0 (.inr (r33.1.Const, r33.1.Coeffs, x0.term.Const, x0.term.Coeffs, x0.by_, true)) hn
        · refine ⟨_, rfl, ?_⟩
          refine TL_store_box sz41 rfl rfl rfl rfl rfl rfl rfl rfl rfl ?_
          refine TL_nil ?_
          refine TZ_pure 1 (by kernel_rfl) rfl rfl rfl rfl rfl (op_load_agg ag77 sz77 rfl rfl rfl) ?_
          refine TZ_one 3 (by kernel_rfl) rfl ?_
          refine TL_store_box sz77 rfl rfl rfl rfl rfl rfl rfl rfl rfl ?_
          refine TL_nil ?_
          refine TZ_pure 4 (by kernel_rfl) rfl rfl rfl rfl rfl (op_assign rfl) ?_
          refine TZ_done (by kernel_rfl) ?_
          refine T_keepH [2, 3, 4] [11, 12, 19] rfl rfl rfl rfl (by rw [hF]; rfl) ?_
          refine T_ren [(11, 11), (12, 12), (19, 1000)] rfl rfl rfl (by rw [hF]; rfl) ?_
          refine T_ret ?_
          obtain rfl := someI hm
          have hn := CtlOK_out hc0
          exact hx0 (.inr (r33.1.Const, r33.1.Coeffs, x0.term.Const, x0.term.Coeffs, x0.by_, true)) hn
      · replace hm := condF hq hm
        refine T_skip ?_
        refine T_region ?_
        refine TL_pure rfl rfl rfl rfl (op_addN rfl rfl (Nat.lt_of_lt_of_le hlt0 hlen24)) ?_
        refine TL_pure rfl rfl rfl rfl (op_move rfl) ?_
        refine TL_nil ?_
        refine TR_keepH [0, 2, 3, 23, 24, 25] [11, 12] rfl rfl rfl rfl (by rw [hF]; rfl) ?_
        obtain rfl := someI hm
        have hn := CtlOK_next hc0
        exact hn _ rfl
theorem c_impl_FirstCut (p0 : List Term) (out : Term × (List Int) × Bool) (hm : m_impl_FirstCut p0 = some out) : ACall Try.prog 27 [.sl 2 (List.map a_Term p0)] [] (.tup [.agg [.int .i64 out.1.Const, .ow 1000], .ow 1001, .bool out.2.2]) [(1000, .arr ⟨false, true⟩ 1 2 (List.map a_i64 out.1.Coeffs)), (1001, .arr ⟨false, true⟩ 1 2 (List.map a_i64 out.2.1))] := by
  refine ACall.intro Try.func27 rfl Try.ntmps27 rfl (fun F hF => ?_)
  unfold m_impl_FirstCut at hm
  refine T_seq ?_
  refine T_region ?_
  refine TL_alloc 11 z41 rfl rfl rfl rfl rfl rfl rfl ?_
  refine TL_pure rfl rfl rfl rfl (op_assign rfl) ?_
  refine TL_pure rfl rfl rfl rfl (op_assign rfl) ?_
  refine TL_nil ?_
  refine T_seq ?_
  refine T_seq ?_
  refine T_region ?_
  refine TL_pure rfl rfl rfl rfl (op_move rfl) ?_
  obtain ⟨r9, hr9, hm⟩ := bindS hm
  refine TL_callF (c_impl_ValidFacts p0 r9 hr9) Try.call48 rfl rfl rfl rfl rfl ?_
  refine TL_pure rfl rfl rfl rfl (op_not rfl) ?_
  refine TL_nil ?_
  refine T_cond rfl (fun hq => ?_) (fun hq => ?_)
  · replace hm := condT hq hm
    refine T_seq ?_
    refine T_region ?_
    refine TL_pure rfl rfl rfl rfl (op_buildP pl41 z41 rfl rfl rfl rfl rfl) ?_
    refine TL_store_box sz41 rfl rfl rfl rfl rfl rfl rfl rfl rfl ?_
    refine TL_pure rfl rfl rfl rfl (op_assign rfl) ?_
    refine TL_pure rfl rfl rfl rfl (op_assign rfl) ?_
    refine TL_nil ?_
    refine T_ownNil 3 12 ⟨false, true⟩ 2 rfl rfl (sz := 1) rfl rfl rfl ?_
    refine T_ownNilBox 11 1 13 ⟨false, true⟩ 2 rfl rfl rfl (sz := 1) rfl rfl rfl rfl ?_
    refine T_keepH [2, 3, 4] [11, 12, 13] rfl rfl rfl rfl (by rw [hF]; rfl) ?_
    refine T_ren [(11, 11), (12, 1001), (13, 1000)] rfl rfl rfl (by rw [hF]; rfl) ?_
    refine T_keepH [2, 3, 4] [11, 1000, 1001] rfl rfl rfl rfl (by rw [hF]; rfl) ?_
    refine T_ret ?_
    obtain rfl := someI hm
    refine ⟨[_, _, _], [1000, 1001], ⟨⟨_, _, rfl, rfl, .inr ⟨ag41, _, _, sz41, rfl, rfl⟩⟩, rfl, rfl, trivial⟩, ?_, rfl, rfl, rfl, rfl⟩
    rfl
  · replace hm := condF hq hm
    refine T_skip ?_
    refine T_seq ?_
    refine T_region ?_
    refine TL_pure rfl rfl rfl rfl (op_move rfl) ?_
    obtain ⟨r14, hr14, hm⟩ := bindS hm
    refine TLE_call [] [(1000, 14)] [] (c_impl_firstCut p0 r14 hr14) (fun _ => rfl) Try.call66 rfl rfl rfl rfl rfl trivial rfl rfl rfl rfl rfl rfl rfl rfl rfl rfl rfl ?_
    refine TL_pure rfl rfl rfl rfl (op_move rfl) ?_
    refine TL_pure rfl rfl rfl rfl (op_extract rfl rfl) ?_
    refine TL_pure rfl rfl rfl rfl (op_extract rfl rfl) ?_
    refine TL_pure rfl rfl rfl rfl (op_extract rfl rfl) ?_
    refine TL_alloc 15 z41 rfl rfl rfl rfl rfl rfl rfl ?_
    refine TL_alloc 16 z77 rfl rfl rfl rfl rfl rfl rfl ?_
    refine TL_store_box sz41 rfl rfl rfl rfl rfl rfl rfl rfl rfl ?_
    refine TL_store_box sz77 rfl rfl rfl rfl rfl rfl rfl rfl rfl ?_
    refine TL_pure rfl rfl rfl rfl (op_assign rfl) ?_
    refine TL_nil ?_
    refine T_seq ?_
    refine T_seq ?_
    refine T_region ?_
    refine TL_pure rfl rfl rfl rfl (op_move rfl) ?_
    refine TL_pure rfl rfl rfl rfl (op_not rfl) ?_
    refine TL_nil ?_
    refine T_cond rfl (fun hq => ?_) (fun hq => ?_)
    · replace hm := condT hq hm
      refine T_seq ?_
      refine T_region ?_
      refine TL_pure rfl rfl rfl rfl (op_buildP pl41 z41 rfl rfl rfl rfl rfl) ?_
      refine TL_store_box sz41 rfl rfl rfl rfl rfl rfl rfl rfl rfl ?_
      refine TL_pure rfl rfl rfl rfl (op_assign rfl) ?_
      refine TL_pure rfl rfl rfl rfl (op_assign rfl) ?_
      refine TL_nil ?_
      refine T_ownNil 3 17 ⟨false, true⟩ 2 rfl rfl (sz := 1) rfl rfl rfl ?_
      refine T_ownNilBox 11 1 18 ⟨false, true⟩ 2 rfl rfl rfl (sz := 1) rfl rfl rfl rfl ?_
      refine T_keepH [2, 3, 4] [11, 17, 18] rfl rfl rfl rfl (by rw [hF]; rfl) ?_
      refine T_ren [(11, 11), (17, 1001), (18, 1000)] rfl rfl rfl (by rw [hF]; rfl) ?_
      refine T_keepH [2, 3, 4] [11, 1000, 1001] rfl rfl rfl rfl (by rw [hF]; rfl) ?_
      refine T_ret ?_
      obtain rfl := someI hm
      refine ⟨[_, _, _], [1000, 1001], ⟨⟨_, _, rfl, rfl, .inr ⟨ag41, _, _, sz41, rfl, rfl⟩⟩, rfl, rfl, trivial⟩, ?_, rfl, rfl, rfl, rfl⟩
      rfl
    · replace hm := condF hq hm
      refine T_skip ?_
      refine T_seq ?_
      refine T_drawZ [4] mix (by kernel_rfl) rfl ?_
      obtain ⟨r24, hr24, hm⟩ := bindS hm
      refine TZ_pure 0 (by kernel_rfl) rfl rfl rfl rfl rfl (op_load_agg ag41 sz41 rfl rfl rfl) ?_
      refine TZ_pure 1 (by kernel_rfl) rfl rfl rfl rfl rfl (op_fieldAddr fa77_1 rfl rfl) ?_
      refine TZ_one 2 (by kernel_rfl) rfl ?_
      refine TL_pure rfl rfl rfl rfl (op_load_one ag26 rfl rfl) ?_
      refine TL_nil ?_
      refine TZ_one 3 (by kernel_rfl) rfl ?_
      refine TL_callO [(1000, 20)] (c_impl_copyInts r14.2.1.by_ r24 hr24) Try.call51 rfl rfl rfl rfl rfl rfl rfl rfl rfl rfl rfl rfl rfl ?_
      refine TL_nil ?_
      refine TZ_one 4 (by kernel_rfl) rfl ?_
      refine TL_store_box sz41 rfl rfl rfl rfl rfl rfl rfl rfl rfl ?_
      refine TL_nil ?_
      refine TZ_pure 5 (by kernel_rfl) rfl rfl rfl rfl rfl (op_assign rfl) ?_
      refine TZ_pure 6 (by kernel_rfl) rfl rfl rfl rfl rfl (op_assign rfl) ?_
      refine TZ_done (by kernel_rfl) ?_
      refine T_keepH [2, 3, 4] [11, 14, 20] rfl rfl rfl rfl (by rw [hF]; rfl) ?_
      refine T_ren [(11, 11), (14, 1000), (20, 1001)] rfl rfl rfl (by rw [hF]; rfl) ?_
      refine T_ret ?_
      obtain rfl := someI hm
      refine ⟨[_, _, _], [1000, 1001], ⟨⟨_, _, rfl, rfl, .inr ⟨ag41, _, _, sz41, rfl, rfl⟩⟩, rfl, rfl, trivial⟩, ?_, rfl, rfl, rfl, rfl⟩
      rfl
theorem c_spec_l02All (p0 : List Term) (p1 : Int) (out : Bool) (hm : m_spec_l02All p0 p1 = some out) : ACall Try.prog 52 [.sl 2 (List.map a_Term p0), .int .i64 p1] [] (.bool out) [] := by
  refine ACall.intro Try.func52 rfl Try.ntmps52 rfl (fun F hF => ?_)
  unfold m_spec_l02All at hm
  refine T_seq ?_
  refine T_region ?_
  refine TL_pure rfl rfl rfl rfl (op_assign rfl) ?_
  refine TL_nil ?_
  refine T_seq ?_
  refine T_seq ?_
  refine T_region ?_
  refine TL_pure rfl rfl rfl rfl (op_assign rfl) ?_
  refine TL_nil ?_
  refine T_block ?_
  refine T_keepH [0, 1, 5] [] rfl rfl rfl rfl (by rw [hF]; rfl) ?_
  refine T_loop ?_
  obtain ⟨u0, hl0, hm⟩ := bindS hm
  refine TR_iter2 (m_spec_l02All_L0 p0) (fun (s0 : Int) => ⟨[(0, .sl 2 (List.map a_Term p0)), (1, .int .i64 p1), (5, .int .i64 s0)], []⟩) (fun u0 => match u0 with | .inl u0 => .exit 0 | .inr u0 => .ret) (fun u0 => match u0 with | .inl u0 => ⟨[(0, .sl 2 (List.map a_Term p0)), (1, .int .i64 p1)], []⟩ | .inr u0 => ⟨[(4, .bool u0)], []⟩) (fun u0 => m_spec_l02All_A0 p0 p1 u0 = some out) hl0 hm (fun u0 hm => ?_) (fun hx0 s0 c0 hm hc0 => ?_)
  · rcases u0 with u0 | u0
    · unfold m_spec_l02All_A0 at hm
      refine T_seq ?_
      refine T_region ?_
      refine TL_pure rfl rfl rfl rfl (op_move rfl) ?_
      refine TL_pure rfl rfl rfl rfl (op_lenT Try.underlying24 rfl (List.length_map _)) ?_
      refine TL_fact (fun _ _ _ hr => RelP.slLen (i := 17) rfl hr) (fun hlen18 => ?_)
      rw [List.length_map] at hlen18
      refine TL_pure rfl rfl rfl rfl (op_move rfl) ?_
      refine TL_pure rfl rfl rfl rfl (op_leq rfl rfl) ?_
      refine TL_pure rfl rfl rfl rfl (op_assign rfl) ?_
      refine TL_nil ?_
      refine T_keepH [4] [] rfl rfl rfl rfl (by rw [hF]; rfl) ?_
      refine T_ret ?_
      obtain rfl := someI hm
      refine ⟨[_], [], ⟨rfl, trivial⟩, ?_, rfl, rfl, rfl, rfl⟩
      rfl
    · unfold m_spec_l02All_A0 at hm
      obtain rfl := someI hm
      refine ⟨[_], [], ⟨rfl, trivial⟩, ?_, rfl, rfl, rfl, rfl⟩
      rfl
  · unfold m_spec_l02All_L0 at hm
    refine T_seq ?_
    refine T_seq ?_
    refine T_region ?_
    refine TL_pure rfl rfl rfl rfl (op_move rfl) ?_
    refine TL_pure rfl rfl rfl rfl (op_move rfl) ?_
    refine TL_pure rfl rfl rfl rfl (op_lenT Try.underlying24 rfl (List.length_map _)) ?_
    refine TL_fact (fun _ _ _ hr => RelP.slLen (i := 7) rfl hr) (fun hlen8 => ?_)
    rw [List.length_map] at hlen8
    refine TL_pure rfl rfl rfl rfl (op_lss rfl rfl) ?_
    refine TL_nil ?_
    refine T_cond rfl (fun hq => ?_) (fun hq => ?_)
    · replace hm := condT hq hm
      refine T_skip ?_
      refine T_seq ?_
      refine T_block ?_
      refine T_seq ?_
      refine T_region ?_
      refine TL_pure rfl rfl rfl rfl (op_move rfl) ?_
      refine TL_pure rfl rfl rfl rfl (op_move rfl) ?_
      obtain ⟨x14, hx14, hm⟩ := bindS hm
      refine TL_pure rfl rfl rfl rfl (op_indexT el24 rfl rfl hx14 rfl) ?_
      obtain ⟨r15, hr15, hm⟩ := bindS hm
      refine TL_callF (c_spec_l02Is x14 r15 hr15) Try.call74 rfl rfl rfl rfl rfl ?_
      refine TL_pure rfl rfl rfl rfl (op_not rfl) ?_
      refine TL_nil ?_
      refine T_cond rfl (fun hq => ?_) (fun hq => ?_)
      · replace hm := condT hq hm
        refine T_seq ?_
        refine T_region ?_
        refine TL_pure rfl rfl rfl rfl (op_assign rfl) ?_
        refine TL_nil ?_
        refine T_keepH [4] [] rfl rfl rfl rfl (by rw [hF]; rfl) ?_
        refine T_ret ?_
        obtain rfl := someI hm
        have hn := CtlOK_out hc0
        exact hx0 (.inr false) hn
      · replace hm := condF hq hm
        refine T_skip ?_
        refine T_region ?_
        refine TL_pure rfl rfl rfl rfl (op_move rfl) ?_
        refine TL_pure rfl rfl rfl rfl (op_addW rfl rfl) ?_
        refine TL_pure rfl rfl rfl rfl (op_assign rfl) ?_
        refine TL_nil ?_
        refine TR_keepH [0, 1, 5] [] rfl rfl rfl rfl (by rw [hF]; rfl) ?_
        obtain rfl := someI hm
        have hn := CtlOK_next hc0
        exact hn _ rfl
    · replace hm := condF hq hm
      refine T_keepH [0, 1] [] rfl rfl rfl rfl (by rw [hF]; rfl) ?_
      refine T_exit ?_
      obtain rfl := someI hm
      have hn := CtlOK_out hc0
      exact hx0 (.inl ()) hn
theorem c_spec_l06Rows (p0 : List Term) (out : List l06Row) (hm : m_spec_l06Rows p0 = some out) : ACall Try.prog 59 [.sl 2 (List.map a_Term p0)] [] (.ow 1000) [(1000, .arr ⟨false, true⟩ 3 91 (List.map a_l06Row out))] := by
  refine ACall.intro Try.func59 rfl Try.ntmps59 rfl (fun F hF => ?_)
  unfold m_spec_l06Rows at hm
  refine T_seq ?_
  refine T_region ?_
  refine TL_pure rfl rfl rfl rfl (op_assign rfl) ?_
  refine TL_nil ?_
  refine T_seq ?_
  refine T_region ?_
  refine TL_buildSlice 11 (es := List.map a_l06Row ([] : List l06Row)) el84 z91 rfl rfl rfl rfl rfl rfl rfl rfl rfl ?_
  refine TL_pure rfl rfl rfl rfl (op_assign rfl) ?_
  refine TL_nil ?_
  refine T_seq ?_
  refine T_seq ?_
  refine T_region ?_
  refine TL_pure rfl rfl rfl rfl (op_assign rfl) ?_
  refine TL_nil ?_
  refine T_block ?_
  refine T_keepH [0, 3, 4] [11] rfl rfl rfl rfl (by rw [hF]; rfl) ?_
  refine T_deepen 11 (p' := false) (List.map a_l06Row ([] : List l06Row)) (by rw [hF]; rfl) rfl (ElR.nil) rfl rfl rfl ?_
  refine T_loop ?_
  obtain ⟨u0, hl0, hm⟩ := bindS hm
  refine TR_iter2 (m_spec_l06Rows_L0 p0) (fun (s0 : (List l06Row) × Int) => ⟨[(0, .sl 2 (List.map a_Term p0)), (3, .ow 11), (4, .int .i64 s0.2)], [(11, .arr ⟨false, true⟩ 3 91 (List.map a_l06Row s0.1))]⟩) (fun u0 => .exit 0) (fun u0 => ⟨[(3, .ow 11)], [(11, .arr ⟨false, true⟩ 3 91 (List.map a_l06Row u0))]⟩) (fun u0 => m_spec_l06Rows_A0 u0 = some out) hl0 hm (fun u0 hm => ?_) (fun hx0 s0 c0 hm hc0 => ?_)
  · unfold m_spec_l06Rows_A0 at hm
    refine T_seq ?_
    refine T_region ?_
    refine TL_pure rfl rfl rfl rfl (op_move rfl) ?_
    refine TL_pure rfl rfl rfl rfl (op_assign rfl) ?_
    refine TL_nil ?_
    refine T_keepH [2] [11] rfl rfl rfl rfl (by rw [hF]; rfl) ?_
    refine T_ren [(11, 1000)] rfl rfl rfl (by rw [hF]; rfl) ?_
    refine T_ret ?_
    obtain rfl := someI hm
    refine ⟨[_], [1000], ⟨rfl, trivial⟩, ?_, rfl, rfl, rfl, rfl⟩
    rfl
  · unfold m_spec_l06Rows_L0 at hm
    refine T_seq ?_
    refine T_seq ?_
    refine T_region ?_
    refine TL_pure rfl rfl rfl rfl (op_move rfl) ?_
    refine TL_pure rfl rfl rfl rfl (op_move rfl) ?_
    refine TL_pure rfl rfl rfl rfl (op_lenT Try.underlying24 rfl (List.length_map _)) ?_
    refine TL_fact (fun _ _ _ hr => RelP.slLen (i := 9) rfl hr) (fun hlen10 => ?_)
    rw [List.length_map] at hlen10
    refine TL_pure rfl rfl rfl rfl (op_lss rfl rfl) ?_
    refine TL_nil ?_
    refine T_cond rfl (fun hq => ?_) (fun hq => ?_)
    · replace hm := condT hq hm
      refine T_skip ?_
      refine T_seq ?_
      refine T_block ?_
      refine T_join (fun (j0 : Int × (List Int)) => ⟨[(0, .sl 2 (List.map a_Term p0)), (3, .ow 11), (4, .int .i64 s0.2), (5, .ptr 76 0 0)], [(11, .arr ⟨false, true⟩ 3 91 (List.map a_l06Row s0.1)), (74, .arr ⟨false, false⟩ 1 2 (List.map a_i64 j0.2)), (76, .box [.int .i64 j0.1, .snil, .ow 74])]⟩) (fun j0 => m_spec_l06Rows_J0 p0 s0 j0 = some c0) (fun j0 hm => ?_) (fun hj0 => ?_)
      · unfold m_spec_l06Rows_J0 at hm
        refine T_seq ?_
        refine T_seq ?_
        refine T_region ?_
        refine TL_pure rfl rfl rfl rfl (op_assign rfl) ?_
        refine TL_nil ?_
        refine T_block ?_
        refine T_ownNilBox 76 1 95 ⟨false, false⟩ 2 rfl rfl rfl (sz := 1) rfl rfl rfl rfl ?_
        refine T_keepH [0, 3, 4, 5, 6] [11, 74, 76, 95] rfl rfl rfl rfl (by rw [hF]; rfl) ?_
        refine T_ren [(11, 11), (74, 74), (76, 76), (95, 81)] rfl rfl rfl (by rw [hF]; rfl) ?_
        refine T_loop ?_
        obtain ⟨u1, hl1, hm⟩ := bindS hm
        refine TR_iter2 (m_spec_l06Rows_L1 p0 s0) (fun (s1 : (List Int) × Int) => ⟨[(0, .sl 2 (List.map a_Term p0)), (3, .ow 11), (4, .int .i64 s0.2), (5, .ptr 76 0 0), (6, .int .i64 s1.2)], [(11, .arr ⟨false, true⟩ 3 91 (List.map a_l06Row s0.1)), (74, .arr ⟨false, false⟩ 1 2 (List.map a_i64 j0.2)), (76, .box [.int .i64 j0.1, .ow 81, .ow 74]), (81, .arr ⟨false, false⟩ 1 2 (List.map a_i64 s1.1))]⟩) (fun u1 => .exit 2) (fun u1 => ⟨[(0, .sl 2 (List.map a_Term p0)), (3, .ow 11), (4, .int .i64 s0.2), (5, .ptr 76 0 0)], [(11, .arr ⟨false, true⟩ 3 91 (List.map a_l06Row s0.1)), (74, .arr ⟨false, false⟩ 1 2 (List.map a_i64 j0.2)), (76, .box [.int .i64 j0.1, .ow 81, .ow 74]), (81, .arr ⟨false, false⟩ 1 2 (List.map a_i64 u1))]⟩) (fun u1 => m_spec_l06Rows_A1 s0 j0 u1 = some c0) hl1 hm (fun u1 hm => ?_) (fun hx1 s1 c1 hm hc1 => ?_)
        · unfold m_spec_l06Rows_A1 at hm
          refine T_seq ?_
          refine T_region ?_
          refine TL_pure rfl rfl rfl rfl (op_fieldAddr fa91_2 rfl rfl) ?_
          refine TL_pure rfl rfl rfl rfl (op_load_one ag26 rfl rfl) ?_
          refine TL_pure rfl rfl rfl rfl (op_move rfl) ?_
          obtain ⟨x40, hx40, hm⟩ := bindS hm
          refine TL_pure rfl rfl rfl rfl (op_indexO el26 rfl rfl rfl hx40) ?_
          refine TL_storeT sz2 rfl rfl ((getI_spec hx40).2) (v' := (1 : Int)) rfl rfl rfl rfl rfl rfl rfl rfl rfl rfl ?_
          refine TL_nil ?_
          refine T_region ?_
          refine TL_pure rfl rfl rfl rfl (op_move rfl) ?_
          refine TL_pure rfl rfl rfl rfl (op_load_agg ag91 sz91 rfl rfl rfl) ?_
          refine TL_deepen 81 (p' := false) (List.map a_i64 u1) (by rw [hF]; rfl) rfl (ElR.map (f := a_i64) (g := a_i64) (fun _ => ⟨⟨rfl, rfl⟩, trivial⟩) u1) rfl rfl rfl ?_
          refine TL_deepen 74 (p' := false) (List.map a_i64 (j0.2.set ((s0.2).toNat) (1 : Int))) (by rw [hF]; rfl) rfl (ElR.map (f := a_i64) (g := a_i64) (fun _ => ⟨⟨rfl, rfl⟩, trivial⟩) (j0.2.set ((s0.2).toNat) (1 : Int))) rfl rfl rfl ?_
          refine TL_buildSliceD (ids := [81, 74]) (es := List.map a_l06Row [(l06Row.mk j0.1 u1 (j0.2.set ((s0.2).toNat) (1 : Int)))]) 94 el84 z91 rfl rfl rfl rfl rfl rfl (by rw [hF]; intro j hj; simp only [List.mem_cons, List.not_mem_nil, or_false] at hj; rcases hj with rfl | rfl <;> rfl) rfl rfl rfl rfl rfl rfl ?_
          obtain ⟨q44, hq44, hm⟩ := bindS hm
          refine TL_appendDT (f := a_l06Row) (a := s0.1) (b := [(l06Row.mk j0.1 u1 (j0.2.set ((s0.2).toNat) (1 : Int)))]) el84 z91 rfl rfl rfl rfl rfl rfl rfl rfl (by rw [hF]; rfl) (capI_spec hq44) rfl rfl rfl rfl rfl ?_
          refine TL_pure rfl rfl rfl rfl (op_assign rfl) ?_
          refine TL_nil ?_
          refine T_region ?_
          refine TL_pure rfl rfl rfl rfl (op_move rfl) ?_
          refine TL_pure rfl rfl rfl rfl (op_addW rfl rfl) ?_
          refine TL_pure rfl rfl rfl rfl (op_assign rfl) ?_
          refine TL_nil ?_
          refine TR_keepH [0, 3, 4] [11] rfl rfl rfl rfl (by rw [hF]; rfl) ?_
          obtain rfl := someI hm
          have hn := CtlOK_next hc0
          exact hn _ rfl
        · unfold m_spec_l06Rows_L1 at hm
          refine T_seq ?_
          refine T_seq ?_
          refine T_region ?_
          refine TL_pure rfl rfl rfl rfl (op_move rfl) ?_
          refine TL_pure rfl rfl rfl rfl (op_lss rfl rfl) ?_
          refine TL_nil ?_
          refine T_cond rfl (fun hq => ?_) (fun hq => ?_)
          · replace hm := condT hq hm
            refine T_skip ?_
            refine T_seq ?_
            refine T_block ?_
            refine T_drawZ [7, 8, 10] mix (by kernel_rfl) rfl ?_
            obtain ⟨x31, hx31, hm⟩ := bindS hm
            obtain ⟨r33, hr33, hm⟩ := bindS hm
            obtain ⟨q35, hq35, hm⟩ := bindS hm
            refine TZ_pure 0 (by kernel_rfl) rfl rfl rfl rfl rfl (op_fieldAddr fa91_1 rfl rfl) ?_
            refine TZ_pure 2 (by kernel_rfl) rfl rfl rfl rfl rfl (op_move rfl) ?_
            refine TZ_pure 3 (by kernel_rfl) rfl rfl rfl rfl rfl (op_move rfl) ?_
            refine TZ_pure 4 (by kernel_rfl) rfl rfl rfl rfl rfl (op_indexT el24 rfl rfl hx31 rfl) ?_
            refine TZ_pure 5 (by kernel_rfl) rfl rfl rfl rfl rfl (op_move rfl) ?_
            refine TZ_each [1, 6] (by kernel_rfl) rfl ?_
            refine ⟨?_, ?_⟩
            · refine ⟨_, rfl, ?_⟩
              refine TL_pure rfl rfl rfl rfl (op_load_one ag26 rfl rfl) ?_
              refine TL_nil ?_
              refine TZ_one 6 (by kernel_rfl) rfl ?_
              refine TL_callF (c_spec_l02Coeff x31 s1.2 r33 hr33) Try.call102 rfl rfl rfl rfl rfl ?_
              refine TL_nil ?_
              refine TZ_one 7 (by kernel_rfl) rfl ?_
              refine TL_buildSlice 91 (es := List.map a_i64 [r33]) el26 z2 rfl rfl rfl rfl rfl rfl rfl rfl rfl ?_
              refine TL_nil ?_
              refine TZ_one 8 (by kernel_rfl) rfl ?_
              refine TL_appendT (f := a_i64) (a := s1.1) (b := [r33]) el26 z2 rfl rfl rfl rfl rfl rfl rfl (capI_spec hq35) rfl rfl rfl rfl rfl ?_
              refine TL_nil ?_
              refine TZ_pure 9 (by kernel_rfl) rfl rfl rfl rfl rfl (op_fieldAddr fa91_1 rfl rfl) ?_
              refine TZ_one 10 (by kernel_rfl) rfl ?_
              refine TL_store_box sz26 rfl rfl rfl rfl rfl rfl rfl rfl rfl ?_
              refine TL_nil ?_
              refine TZ_done (by kernel_rfl) ?_
              refine T_region ?_
              refine TL_pure rfl rfl rfl rfl (op_move rfl) ?_
              refine TL_pure rfl rfl rfl rfl (op_addW rfl rfl) ?_
              refine TL_pure rfl rfl rfl rfl (op_assign rfl) ?_
              refine TL_nil ?_
              refine TR_keepH [0, 3, 4, 5, 6] [11, 74, 76, 81] rfl rfl rfl rfl (by rw [hF]; rfl) ?_
              obtain rfl := someI hm
              have hn := CtlOK_next hc1
              exact hn _ rfl
            · refine ⟨_, rfl, ?_⟩
              refine TL_callF (c_spec_l02Coeff x31 s1.2 r33 hr33) Try.call102 rfl rfl rfl rfl rfl ?_
              refine TL_nil ?_
              refine TZ_each [1, 7] (by kernel_rfl) rfl ?_
              refine ⟨?_, ?_⟩
              · refine ⟨_, rfl, ?_⟩
                refine TL_pure rfl rfl rfl rfl (op_load_one ag26 rfl rfl) ?_
                refine TL_nil ?_
                refine TZ_one 7 (by kernel_rfl) rfl ?_
                refine TL_buildSlice 93 (es := List.map a_i64 [r33]) el26 z2 rfl rfl rfl rfl rfl rfl rfl rfl rfl ?_
                refine TL_nil ?_
                refine TZ_one 8 (by kernel_rfl) rfl ?_
                refine TL_appendT (f := a_i64) (a := s1.1) (b := [r33]) el26 z2 rfl rfl rfl rfl rfl rfl rfl (capI_spec hq35) rfl rfl rfl rfl rfl ?_
                refine TL_nil ?_
                refine TZ_pure 9 (by kernel_rfl) rfl rfl rfl rfl rfl (op_fieldAddr fa91_1 rfl rfl) ?_
                refine TZ_one 10 (by kernel_rfl) rfl ?_
                refine TL_store_box sz26 rfl rfl rfl rfl rfl rfl rfl rfl rfl ?_
                refine TL_nil ?_
                refine TZ_done (by kernel_rfl) ?_
                refine T_region ?_
                refine TL_pure rfl rfl rfl rfl (op_move rfl) ?_
                refine TL_pure rfl rfl rfl rfl (op_addW rfl rfl) ?_
                refine TL_pure rfl rfl rfl rfl (op_assign rfl) ?_
                refine TL_nil ?_
                refine TR_keepH [0, 3, 4, 5, 6] [11, 74, 76, 81] rfl rfl rfl rfl (by rw [hF]; rfl) ?_
                obtain rfl := someI hm
                have hn := CtlOK_next hc1
                exact hn _ rfl
              · refine ⟨_, rfl, ?_⟩
                refine TL_buildSlice 92 (es := List.map a_i64 [r33]) el26 z2 rfl rfl rfl rfl rfl rfl rfl rfl rfl ?_
                refine TL_nil ?_
                refine TZ_pure 1 (by kernel_rfl) rfl rfl rfl rfl rfl (op_load_one ag26 rfl rfl) ?_
                refine TZ_one 8 (by kernel_rfl) rfl ?_
                refine TL_appendT (f := a_i64) (a := s1.1) (b := [r33]) el26 z2 rfl rfl rfl rfl rfl rfl rfl (capI_spec hq35) rfl rfl rfl rfl rfl ?_
                refine TL_nil ?_
                refine TZ_pure 9 (by kernel_rfl) rfl rfl rfl rfl rfl (op_fieldAddr fa91_1 rfl rfl) ?_
                refine TZ_one 10 (by kernel_rfl) rfl ?_
                refine TL_store_box sz26 rfl rfl rfl rfl rfl rfl rfl rfl rfl ?_
                refine TL_nil ?_
                refine TZ_done (by kernel_rfl) ?_
                refine T_region ?_
                refine TL_pure rfl rfl rfl rfl (op_move rfl) ?_
                refine TL_pure rfl rfl rfl rfl (op_addW rfl rfl) ?_
                refine TL_pure rfl rfl rfl rfl (op_assign rfl) ?_
                refine TL_nil ?_
                refine TR_keepH [0, 3, 4, 5, 6] [11, 74, 76, 81] rfl rfl rfl rfl (by rw [hF]; rfl) ?_
                obtain rfl := someI hm
                have hn := CtlOK_next hc1
                exact hn _ rfl
          · replace hm := condF hq hm
            refine T_keepH [0, 3, 4, 5] [11, 74, 76, 81] rfl rfl rfl rfl (by rw [hF]; rfl) ?_
            refine T_exit ?_
            obtain rfl := someI hm
            have hn := CtlOK_out hc1
            exact hx1 s1.1 hn
      · refine T_drawZ [10] mix (by kernel_rfl) rfl ?_
        obtain ⟨x16, hx16, hm⟩ := bindS hm
        obtain ⟨k21, hk21, hm⟩ := bindS hm
        refine TZ_pure 0 (by kernel_rfl) rfl rfl rfl rfl rfl (op_move rfl) ?_
        refine TZ_pure 1 (by kernel_rfl) rfl rfl rfl rfl rfl (op_move rfl) ?_
        refine TZ_pure 2 (by kernel_rfl) rfl rfl rfl rfl rfl (op_indexT el24 rfl rfl hx16 rfl) ?_
        refine TZ_pure 3 (by kernel_rfl) rfl rfl rfl rfl rfl (op_fieldAddrC (n := 1) fa41_0 rfl rfl rfl) ?_
        refine TZ_pure 4 (by kernel_rfl) rfl rfl rfl rfl rfl (op_load_one ag2 rfl rfl) ?_
        refine TZ_pure 5 (by kernel_rfl) rfl rfl rfl rfl rfl (op_move rfl) ?_
        refine TZ_pure 6 (by kernel_rfl) rfl rfl rfl rfl rfl (op_lenT Try.underlying24 rfl (List.length_map _)) ?_
        refine TZ_each [7, 9] (by kernel_rfl) rfl ?_
        refine ⟨?_, ?_⟩
        · refine ⟨_, rfl, ?_⟩
          refine TL_make 98 (n := k21) el26 z2 rfl rfl rfl rfl rfl rfl (makeI_spec hk21).1 (makeI_spec hk21).1 (makeI_spec hk21).2 rfl rfl rfl rfl ?_
          refine TL_nils 98 (List.map a_i64 (List.replicate k21 (0 : Int))) (by rw [hF]; rfl) rfl (ElR.rep (z := .int .i64 (0 : Int)) (g := a_i64) (x := (0 : Int)) ⟨⟨rfl, rfl⟩, trivial⟩ k21) rfl ?_
          refine TL_nil ?_
          refine TZ_pure 8 (by kernel_rfl) rfl rfl rfl rfl rfl (op_buildP pl91 z91 rfl rfl rfl rfl rfl) ?_
          refine TZ_one 9 (by kernel_rfl) rfl ?_
          refine TL_alloc 100 z91 rfl rfl rfl rfl rfl rfl rfl ?_
          refine TL_nil ?_
          refine TZ_one 10 (by kernel_rfl) rfl ?_
          refine TL_store_box sz91 rfl rfl rfl rfl rfl rfl rfl rfl rfl ?_
          refine TL_nil ?_
          refine TZ_done (by kernel_rfl) ?_
          refine T_keepH [0, 3, 4, 5] [11, 98, 100] rfl rfl rfl rfl (by rw [hF]; rfl) ?_
          refine T_ren [(11, 11), (98, 74), (100, 76)] rfl rfl rfl (by rw [hF]; rfl) ?_
          exact hj0 (x16.Const, (List.replicate k21 (0 : Int))) hm
        · refine ⟨_, rfl, ?_⟩
          refine TL_alloc 99 z91 rfl rfl rfl rfl rfl rfl rfl ?_
          refine TL_nil ?_
          refine TZ_one 7 (by kernel_rfl) rfl ?_
          refine TL_make 101 (n := k21) el26 z2 rfl rfl rfl rfl rfl rfl (makeI_spec hk21).1 (makeI_spec hk21).1 (makeI_spec hk21).2 rfl rfl rfl rfl ?_
          refine TL_nils 101 (List.map a_i64 (List.replicate k21 (0 : Int))) (by rw [hF]; rfl) rfl (ElR.rep (z := .int .i64 (0 : Int)) (g := a_i64) (x := (0 : Int)) ⟨⟨rfl, rfl⟩, trivial⟩ k21) rfl ?_
          refine TL_nil ?_
          refine TZ_pure 8 (by kernel_rfl) rfl rfl rfl rfl rfl (op_buildP pl91 z91 rfl rfl rfl rfl rfl) ?_
          refine TZ_one 10 (by kernel_rfl) rfl ?_
          refine TL_store_box sz91 rfl rfl rfl rfl rfl rfl rfl rfl rfl ?_
          refine TL_nil ?_
          refine TZ_done (by kernel_rfl) ?_
          refine T_keepH [0, 3, 4, 5] [11, 99, 101] rfl rfl rfl rfl (by rw [hF]; rfl) ?_
          refine T_ren [(11, 11), (99, 76), (101, 74)] rfl rfl rfl (by rw [hF]; rfl) ?_
          refine T_keepH [0, 3, 4, 5] [11, 74, 76] rfl rfl rfl rfl (by rw [hF]; rfl) ?_
          exact hj0 (x16.Const, (List.replicate k21 (0 : Int))) hm
    · replace hm := condF hq hm
      refine T_keepH [3] [11] rfl rfl rfl rfl (by rw [hF]; rfl) ?_
      refine T_exit ?_
      obtain rfl := someI hm
      have hn := CtlOK_out hc0
      exact hx0 s0.1 hn
theorem c_spec_l00Max (p0 : Int) (p1 : Int) (out : Int) (hm : m_spec_l00Max p0 p1 = some out) : ACall Try.prog 121 [.int .i64 p0, .int .i64 p1] [] (.int .i64 out) [] := by
  refine ACall.intro Try.func121 rfl Try.ntmps121 rfl (fun F hF => ?_)
  unfold m_spec_l00Max at hm
  refine T_seq ?_
  refine T_region ?_
  refine TL_pure rfl rfl rfl rfl (op_assign rfl) ?_
  refine TL_nil ?_
  refine T_seq ?_
  refine T_seq ?_
  refine T_region ?_
  refine TL_pure rfl rfl rfl rfl (op_move rfl) ?_
  refine TL_pure rfl rfl rfl rfl (op_move rfl) ?_
  refine TL_pure rfl rfl rfl rfl (op_gtr rfl rfl) ?_
  refine TL_nil ?_
  refine T_cond rfl (fun hq => ?_) (fun hq => ?_)
  · replace hm := condT hq hm
    refine T_seq ?_
    refine T_region ?_
    refine TL_pure rfl rfl rfl rfl (op_move rfl) ?_
    refine TL_pure rfl rfl rfl rfl (op_assign rfl) ?_
    refine TL_nil ?_
    refine T_keepH [4] [] rfl rfl rfl rfl (by rw [hF]; rfl) ?_
    refine T_ret ?_
    obtain rfl := someI hm
    refine ⟨[_], [], ⟨rfl, trivial⟩, ?_, rfl, rfl, rfl, rfl⟩
    rfl
  · replace hm := condF hq hm
    refine T_skip ?_
    refine T_seq ?_
    refine T_region ?_
    refine TL_pure rfl rfl rfl rfl (op_move rfl) ?_
    refine TL_pure rfl rfl rfl rfl (op_assign rfl) ?_
    refine TL_nil ?_
    refine T_keepH [4] [] rfl rfl rfl rfl (by rw [hF]; rfl) ?_
    refine T_ret ?_
    obtain rfl := someI hm
    refine ⟨[_], [], ⟨rfl, trivial⟩, ?_, rfl, rfl, rfl, rfl⟩
    rfl
theorem c_spec_l06Gcd (p0 : Int) (p1 : Int) (out : Int) (hm : m_spec_l06Gcd p0 p1 = some out) : ACall Try.prog 118 [.int .i64 p0, .int .i64 p1] [] (.int .i64 out) [] := by
  refine ACall.intro Try.func118 rfl Try.ntmps118 rfl (fun F hF => ?_)
  unfold m_spec_l06Gcd at hm
  refine T_seq ?_
  refine T_region ?_
  refine TL_pure rfl rfl rfl rfl (op_assign rfl) ?_
  refine TL_nil ?_
  refine T_seq ?_
  refine T_region ?_
  refine TL_pure rfl rfl rfl rfl (op_move rfl) ?_
  refine TL_pure rfl rfl rfl rfl (op_move rfl) ?_
  refine TL_pure rfl rfl rfl rfl (op_negW rfl) ?_
  obtain ⟨r9, hr9, hm⟩ := bindS hm
  refine TL_callF (c_spec_l00Max p1 (w64 (0 - p1)) r9 hr9) Try.call121 rfl rfl rfl rfl rfl ?_
  refine TL_pure rfl rfl rfl rfl (op_assign rfl) ?_
  refine TL_nil ?_
  refine T_seq ?_
  refine T_block ?_
  refine T_keepH [0, 1] [] rfl rfl rfl rfl (by rw [hF]; rfl) ?_
  refine T_loop ?_
  obtain ⟨u0, hl0, hm⟩ := bindS hm
  refine TR_iter2 (m_spec_l06Gcd_L0) (fun (s0 : Int × Int) => ⟨[(0, .int .i64 s0.1), (1, .int .i64 s0.2)], []⟩) (fun u0 => .exit 0) (fun u0 => ⟨[(0, .int .i64 u0)], []⟩) (fun u0 => m_spec_l06Gcd_A0 u0 = some out) hl0 hm (fun u0 hm => ?_) (fun hx0 s0 c0 hm hc0 => ?_)
  · unfold m_spec_l06Gcd_A0 at hm
    refine T_seq ?_
    refine T_region ?_
    refine TL_pure rfl rfl rfl rfl (op_move rfl) ?_
    refine TL_pure rfl rfl rfl rfl (op_assign rfl) ?_
    refine TL_nil ?_
    refine T_keepH [4] [] rfl rfl rfl rfl (by rw [hF]; rfl) ?_
    refine T_ret ?_
    obtain rfl := someI hm
    refine ⟨[_], [], ⟨rfl, trivial⟩, ?_, rfl, rfl, rfl, rfl⟩
    rfl
  · unfold m_spec_l06Gcd_L0 at hm
    refine T_seq ?_
    refine T_seq ?_
    refine T_region ?_
    refine TL_pure rfl rfl rfl rfl (op_move rfl) ?_
    refine TL_pure rfl rfl rfl rfl (op_gtr rfl rfl) ?_
    refine TL_nil ?_
    refine T_cond rfl (fun hq => ?_) (fun hq => ?_)
    · replace hm := condT hq hm
      refine T_skip ?_
      refine T_block ?_
      refine T_seq ?_
      refine T_region ?_
      refine TL_pure rfl rfl rfl rfl (op_move rfl) ?_
      refine TL_pure rfl rfl rfl rfl (op_move rfl) ?_
      obtain ⟨q14, hq14, hm⟩ := bindS hm
      refine TL_pure rfl rfl rfl rfl (op_remT rfl rfl hq14) ?_
      refine TL_pure rfl rfl rfl rfl (op_assign rfl) ?_
      refine TL_nil ?_
      refine T_seq ?_
      refine T_region ?_
      refine TL_pure rfl rfl rfl rfl (op_move rfl) ?_
      refine TL_pure rfl rfl rfl rfl (op_assign rfl) ?_
      refine TL_nil ?_
      refine T_region ?_
      refine TL_pure rfl rfl rfl rfl (op_move rfl) ?_
      refine TL_pure rfl rfl rfl rfl (op_assign rfl) ?_
      refine TL_nil ?_
      refine TR_keepH [0, 1] [] rfl rfl rfl rfl (by rw [hF]; rfl) ?_
      obtain rfl := someI hm
      have hn := CtlOK_next hc0
      exact hn _ rfl
    · replace hm := condF hq hm
      refine T_keepH [0] [] rfl rfl rfl rfl (by rw [hF]; rfl) ?_
      refine T_exit ?_
      obtain rfl := someI hm
      have hn := CtlOK_out hc0
      exact hx0 s0.1 hn
theorem c_spec_l06Mix (p0 : l06Row) (p1 : l06Row) (p2 : Int) (out : l06Row × Bool) (hm : m_spec_l06Mix p0 p1 p2 = some out) : ACall Try.prog 101 [.cp [.int .i64 p0.c, .sl 1 (List.map a_i64 p0.list), .sl 1 (List.map a_i64 p0.times)], .cp [.int .i64 p1.c, .sl 1 (List.map a_i64 p1.list), .sl 1 (List.map a_i64 p1.times)], .int .i64 p2] [] (.tup [.agg [.int .i64 out.1.c, .ow 1000, .ow 1001], .bool out.2]) [(1000, .arr ⟨false, true⟩ 1 2 (List.map a_i64 out.1.list)), (1001, .arr ⟨false, true⟩ 1 2 (List.map a_i64 out.1.times))] := by
  refine ACall.intro Try.func101 rfl Try.ntmps101 rfl (fun F hF => ?_)
  unfold m_spec_l06Mix at hm
  refine T_seq ?_
  refine T_region ?_
  refine TL_alloc 11 z91 rfl rfl rfl rfl rfl rfl rfl ?_
  refine TL_pure rfl rfl rfl rfl (op_assign rfl) ?_
  refine TL_nil ?_
  refine T_seq ?_
  refine T_region ?_
  refine TL_pure rfl rfl rfl rfl (op_move rfl) ?_
  refine TL_pure rfl rfl rfl rfl (op_nilCheck rfl rfl) ?_
  refine TL_pure rfl rfl rfl rfl (op_fieldAddrC (n := 1) fa91_1 rfl rfl rfl) ?_
  refine TL_pure rfl rfl rfl rfl (op_load_one ag26 rfl rfl) ?_
  refine TL_pure rfl rfl rfl rfl (op_move rfl) ?_
  obtain ⟨x22, hx22, hm⟩ := bindS hm
  refine TL_pure rfl rfl rfl rfl (op_indexT el26 rfl rfl hx22 rfl) ?_
  refine TL_pure rfl rfl rfl rfl (op_load_one ag2 rfl rfl) ?_
  refine TL_pure rfl rfl rfl rfl (op_assign rfl) ?_
  refine TL_nil ?_
  refine T_seq ?_
  refine T_region ?_
  refine TL_pure rfl rfl rfl rfl (op_move rfl) ?_
  refine TL_pure rfl rfl rfl rfl (op_nilCheck rfl rfl) ?_
  refine TL_pure rfl rfl rfl rfl (op_fieldAddrC (n := 1) fa91_1 rfl rfl rfl) ?_
  refine TL_pure rfl rfl rfl rfl (op_load_one ag26 rfl rfl) ?_
  refine TL_pure rfl rfl rfl rfl (op_move rfl) ?_
  obtain ⟨x29, hx29, hm⟩ := bindS hm
  refine TL_pure rfl rfl rfl rfl (op_indexT el26 rfl rfl hx29 rfl) ?_
  refine TL_pure rfl rfl rfl rfl (op_load_one ag2 rfl rfl) ?_
  refine TL_pure rfl rfl rfl rfl (op_negW rfl) ?_
  refine TL_pure rfl rfl rfl rfl (op_assign rfl) ?_
  refine TL_nil ?_
  refine T_seq ?_
  refine T_region ?_
  refine TL_pure rfl rfl rfl rfl (op_move rfl) ?_
  refine TL_pure rfl rfl rfl rfl (op_move rfl) ?_
  obtain ⟨r34, hr34, hm⟩ := bindS hm
  refine TL_callF (c_spec_l06Gcd x22 (w64 (0 - x29)) r34 hr34) Try.call118 rfl rfl rfl rfl rfl ?_
  refine TL_pure rfl rfl rfl rfl (op_assign rfl) ?_
  refine TL_nil ?_
  refine T_seq ?_
  refine T_region ?_
  refine TL_pure rfl rfl rfl rfl (op_move rfl) ?_
  refine TL_pure rfl rfl rfl rfl (op_move rfl) ?_
  obtain ⟨q37, hq37, hm⟩ := bindS hm
  refine TL_pure rfl rfl rfl rfl (op_quoT rfl rfl hq37) ?_
  refine TL_pure rfl rfl rfl rfl (op_assign rfl) ?_
  refine TL_nil ?_
  refine T_seq ?_
  refine T_region ?_
  refine TL_pure rfl rfl rfl rfl (op_move rfl) ?_
  refine TL_pure rfl rfl rfl rfl (op_move rfl) ?_
  obtain ⟨q40, hq40, hm⟩ := bindS hm
  refine TL_pure rfl rfl rfl rfl (op_quoT rfl rfl hq40) ?_
  refine TL_pure rfl rfl rfl rfl (op_assign rfl) ?_
  refine TL_nil ?_
  refine T_seq ?_
  refine T_drawZ [15] mix (by kernel_rfl) rfl ?_
  refine TZ_pure 0 (by kernel_rfl) rfl rfl rfl rfl rfl (op_move rfl) ?_
  refine TZ_pure 1 (by kernel_rfl) rfl rfl rfl rfl rfl (op_move rfl) ?_
  refine TZ_pure 2 (by kernel_rfl) rfl rfl rfl rfl rfl (op_nilCheck rfl rfl) ?_
  refine TZ_pure 3 (by kernel_rfl) rfl rfl rfl rfl rfl (op_fieldAddrC (n := 1) fa91_0 rfl rfl rfl) ?_
  refine TZ_pure 4 (by kernel_rfl) rfl rfl rfl rfl rfl (op_load_one ag2 rfl rfl) ?_
  refine TZ_pure 5 (by kernel_rfl) rfl rfl rfl rfl rfl (op_mulW rfl rfl) ?_
  refine TZ_pure 6 (by kernel_rfl) rfl rfl rfl rfl rfl (op_move rfl) ?_
  refine TZ_pure 7 (by kernel_rfl) rfl rfl rfl rfl rfl (op_move rfl) ?_
  refine TZ_pure 8 (by kernel_rfl) rfl rfl rfl rfl rfl (op_nilCheck rfl rfl) ?_
  refine TZ_pure 9 (by kernel_rfl) rfl rfl rfl rfl rfl (op_fieldAddrC (n := 1) fa91_0 rfl rfl rfl) ?_
  refine TZ_pure 10 (by kernel_rfl) rfl rfl rfl rfl rfl (op_load_one ag2 rfl rfl) ?_
  refine TZ_pure 11 (by kernel_rfl) rfl rfl rfl rfl rfl (op_mulW rfl rfl) ?_
  refine TZ_pure 12 (by kernel_rfl) rfl rfl rfl rfl rfl (op_addW rfl rfl) ?_
  refine TZ_pure 13 (by kernel_rfl) rfl rfl rfl rfl rfl (op_buildP pl91 z91 rfl rfl rfl rfl rfl) ?_
  refine TZ_one 14 (by kernel_rfl) rfl ?_
  refine TL_alloc 15 z91 rfl rfl rfl rfl rfl rfl rfl ?_
  refine TL_nil ?_
  refine TZ_one 15 (by kernel_rfl) rfl ?_
  refine TL_store_box sz91 rfl rfl rfl rfl rfl rfl rfl rfl rfl ?_
  refine TL_nil ?_
  refine TZ_done (by kernel_rfl) ?_
  refine T_seq ?_
  refine T_region ?_
  refine TL_pure rfl rfl rfl rfl (op_fieldAddr fa91_0 rfl rfl) ?_
  refine TL_pure rfl rfl rfl rfl (op_load_one ag2 rfl rfl) ?_
  obtain ⟨r57, hr57, hm⟩ := bindS hm
  refine TL_callF (c_spec_l06Gcd (0 : Int) (w64 ((w64 (q40 * p0.c)) + (w64 (q37 * p1.c)))) r57 hr57) Try.call118 rfl rfl rfl rfl rfl ?_
  refine TL_pure rfl rfl rfl rfl (op_assign rfl) ?_
  refine TL_nil ?_
  refine T_seq ?_
  refine T_seq ?_
  refine T_region ?_
  refine TL_pure rfl rfl rfl rfl (op_assign rfl) ?_
  refine TL_nil ?_
  refine T_block ?_
  refine T_ownNilBox 15 1 609 ⟨false, false⟩ 2 rfl rfl rfl (sz := 1) rfl rfl rfl rfl ?_
  refine T_keepH [0, 1, 6, 8, 9, 10, 11, 12] [11, 15, 609] rfl rfl rfl rfl (by rw [hF]; rfl) ?_
  refine T_ren [(11, 11), (15, 15), (609, 19)] rfl rfl rfl (by rw [hF]; rfl) ?_
  refine T_loop ?_
  obtain ⟨u0, hl0, hm⟩ := bindS hm
  refine TR_iter2 (m_spec_l06Mix_L0 p0 p1 q37 q40) (fun (s0 : Int × (List Int) × Int) => ⟨[(0, .cp [.int .i64 p0.c, .sl 1 (List.map a_i64 p0.list), .sl 1 (List.map a_i64 p0.times)]), (1, .cp [.int .i64 p1.c, .sl 1 (List.map a_i64 p1.list), .sl 1 (List.map a_i64 p1.times)]), (6, .ptr 11 0 0), (8, .int .i64 q37), (9, .int .i64 q40), (10, .int .i64 s0.1), (11, .ptr 15 0 0), (12, .int .i64 s0.2.2)], [(11, .box [.int .i64 (0 : Int), .snil, .snil]), (15, .box [.int .i64 (w64 ((w64 (q40 * p0.c)) + (w64 (q37 * p1.c)))), .ow 19, .snil]), (19, .arr ⟨false, false⟩ 1 2 (List.map a_i64 s0.2.1))]⟩) (fun u0 => .exit 0) (fun u0 => ⟨[(0, .cp [.int .i64 p0.c, .sl 1 (List.map a_i64 p0.list), .sl 1 (List.map a_i64 p0.times)]), (1, .cp [.int .i64 p1.c, .sl 1 (List.map a_i64 p1.list), .sl 1 (List.map a_i64 p1.times)]), (6, .ptr 11 0 0), (8, .int .i64 q37), (9, .int .i64 q40), (10, .int .i64 u0.1), (11, .ptr 15 0 0)], [(11, .box [.int .i64 (0 : Int), .snil, .snil]), (15, .box [.int .i64 (w64 ((w64 (q40 * p0.c)) + (w64 (q37 * p1.c)))), .ow 19, .snil]), (19, .arr ⟨false, false⟩ 1 2 (List.map a_i64 u0.2))]⟩) (fun u0 => m_spec_l06Mix_A0 p0 p1 q37 q40 u0 = some out) hl0 hm (fun u0 hm => ?_) (fun hx0 s0 c0 hm hc0 => ?_)
  · unfold m_spec_l06Mix_A0 at hm
    refine T_seq ?_
    refine T_seq ?_
    refine T_region ?_
    refine TL_pure rfl rfl rfl rfl (op_assign rfl) ?_
    refine TL_nil ?_
    refine T_block ?_
    refine T_ownNilBox 15 2 608 ⟨false, false⟩ 2 rfl rfl rfl (sz := 1) rfl rfl rfl rfl ?_
    refine T_keepH [0, 1, 6, 8, 9, 10, 11, 13] [11, 15, 19, 608] rfl rfl rfl rfl (by rw [hF]; rfl) ?_
    refine T_ren [(11, 11), (15, 15), (19, 19), (608, 315)] rfl rfl rfl (by rw [hF]; rfl) ?_
    refine T_loop ?_
    obtain ⟨u1, hl1, hm⟩ := bindS hm
    refine TR_iter2 (m_spec_l06Mix_L1 p0 p1 q37 q40) (fun (s1 : Int × (List Int) × Int) => ⟨[(0, .cp [.int .i64 p0.c, .sl 1 (List.map a_i64 p0.list), .sl 1 (List.map a_i64 p0.times)]), (1, .cp [.int .i64 p1.c, .sl 1 (List.map a_i64 p1.list), .sl 1 (List.map a_i64 p1.times)]), (6, .ptr 11 0 0), (8, .int .i64 q37), (9, .int .i64 q40), (10, .int .i64 s1.1), (11, .ptr 15 0 0), (13, .int .i64 s1.2.2)], [(11, .box [.int .i64 (0 : Int), .snil, .snil]), (15, .box [.int .i64 (w64 ((w64 (q40 * p0.c)) + (w64 (q37 * p1.c)))), .ow 19, .ow 315]), (19, .arr ⟨false, false⟩ 1 2 (List.map a_i64 u0.2)), (315, .arr ⟨false, false⟩ 1 2 (List.map a_i64 s1.2.1))]⟩) (fun u1 => .exit 2) (fun u1 => ⟨[(6, .ptr 11 0 0), (10, .int .i64 u1.1), (11, .ptr 15 0 0)], [(11, .box [.int .i64 (0 : Int), .snil, .snil]), (15, .box [.int .i64 (w64 ((w64 (q40 * p0.c)) + (w64 (q37 * p1.c)))), .ow 19, .ow 315]), (19, .arr ⟨false, false⟩ 1 2 (List.map a_i64 u0.2)), (315, .arr ⟨false, false⟩ 1 2 (List.map a_i64 u1.2))]⟩) (fun u1 => m_spec_l06Mix_A1 p0 p1 q37 q40 u0 u1 = some out) hl1 hm (fun u1 hm => ?_) (fun hx1 s1 c1 hm hc1 => ?_)
    · unfold m_spec_l06Mix_A1 at hm
      refine T_seq ?_
      refine T_region ?_
      refine TL_pure rfl rfl rfl rfl (op_fieldAddr fa91_0 rfl rfl) ?_
      refine TL_pure rfl rfl rfl rfl (op_load_one ag2 rfl rfl) ?_
      refine TL_pure rfl rfl rfl rfl (op_move rfl) ?_
      obtain ⟨q141, hq141, hm⟩ := bindS hm
      refine TL_pure rfl rfl rfl rfl (op_quoT rfl rfl hq141) ?_
      refine TL_pure rfl rfl rfl rfl (op_fieldAddr fa91_0 rfl rfl) ?_
      refine TL_store_box sz2 rfl rfl rfl rfl rfl rfl rfl rfl rfl ?_
      refine TL_nil ?_
      refine T_seq ?_
      refine T_region ?_
      refine TL_pure rfl rfl rfl rfl (op_fieldAddr fa91_0 rfl rfl) ?_
      refine TL_pure rfl rfl rfl rfl (op_load_one ag2 rfl rfl) ?_
      obtain ⟨r145, hr145, hm⟩ := bindS hm
      refine TL_callF (c_spec_l02Number q141 r145 hr145) Try.call112 rfl rfl rfl rfl rfl ?_
      refine TL_pure rfl rfl rfl rfl (op_assign rfl) ?_
      refine TL_nil ?_
      refine T_seq ?_
      refine T_seq ?_
      refine T_region ?_
      refine TL_pure rfl rfl rfl rfl (op_assign rfl) ?_
      refine TL_nil ?_
      refine T_block ?_
      refine T_keepH [6, 10, 11, 14, 15] [11, 15, 19, 315] rfl rfl rfl rfl (by rw [hF]; rfl) ?_
      refine T_loop ?_
      obtain ⟨u2, hl2, hm⟩ := bindS hm
      refine TR_iter2 (m_spec_l06Mix_L2 u1) (fun (s2 : (List Int) × Bool × Int) => ⟨[(6, .ptr 11 0 0), (10, .int .i64 u1.1), (11, .ptr 15 0 0), (14, .bool s2.2.1), (15, .int .i64 s2.2.2)], [(11, .box [.int .i64 (0 : Int), .snil, .snil]), (15, .box [.int .i64 q141, .ow 19, .ow 315]), (19, .arr ⟨false, false⟩ 1 2 (List.map a_i64 s2.1)), (315, .arr ⟨false, false⟩ 1 2 (List.map a_i64 u1.2))]⟩) (fun u2 => .exit 4) (fun u2 => ⟨[(6, .ptr 11 0 0), (10, .int .i64 u1.1), (11, .ptr 15 0 0), (14, .bool u2.2)], [(11, .box [.int .i64 (0 : Int), .snil, .snil]), (15, .box [.int .i64 q141, .ow 19, .ow 315]), (19, .arr ⟨false, false⟩ 1 2 (List.map a_i64 u2.1)), (315, .arr ⟨false, false⟩ 1 2 (List.map a_i64 u1.2))]⟩) (fun u2 => m_spec_l06Mix_A2 u1 q141 u2 = some out) hl2 hm (fun u2 hm => ?_) (fun hx2 s2 c2 hm hc2 => ?_)
      · unfold m_spec_l06Mix_A2 at hm
        refine T_seq ?_
        refine T_seq ?_
        refine T_region ?_
        refine TL_pure rfl rfl rfl rfl (op_assign rfl) ?_
        refine TL_nil ?_
        refine T_block ?_
        refine T_keepH [6, 10, 11, 14, 16] [11, 15, 19, 315] rfl rfl rfl rfl (by rw [hF]; rfl) ?_
        refine T_loop ?_
        obtain ⟨u3, hl3, hm⟩ := bindS hm
        refine TR_iter2 (m_spec_l06Mix_L3 u1) (fun (s3 : (List Int) × Bool × Int) => ⟨[(6, .ptr 11 0 0), (10, .int .i64 u1.1), (11, .ptr 15 0 0), (14, .bool s3.2.1), (16, .int .i64 s3.2.2)], [(11, .box [.int .i64 (0 : Int), .snil, .snil]), (15, .box [.int .i64 q141, .ow 19, .ow 315]), (19, .arr ⟨false, false⟩ 1 2 (List.map a_i64 u2.1)), (315, .arr ⟨false, false⟩ 1 2 (List.map a_i64 s3.1))]⟩) (fun u3 => .exit 6) (fun u3 => ⟨[(6, .ptr 11 0 0), (11, .ptr 15 0 0), (14, .bool u3.2)], [(11, .box [.int .i64 (0 : Int), .snil, .snil]), (15, .box [.int .i64 q141, .ow 19, .ow 315]), (19, .arr ⟨false, false⟩ 1 2 (List.map a_i64 u2.1)), (315, .arr ⟨false, false⟩ 1 2 (List.map a_i64 u3.1))]⟩) (fun u3 => m_spec_l06Mix_A3 q141 u2 u3 = some out) hl3 hm (fun u3 hm => ?_) (fun hx3 s3 c3 hm hc3 => ?_)
        · unfold m_spec_l06Mix_A3 at hm
          refine T_seq ?_
          refine T_region ?_
          refine TL_pure rfl rfl rfl rfl (op_load_agg ag91 sz91 rfl rfl rfl) ?_
          refine TL_pure rfl rfl rfl rfl (op_move rfl) ?_
          refine TL_store_box sz91 rfl rfl rfl rfl rfl rfl rfl rfl rfl ?_
          refine TL_pure rfl rfl rfl rfl (op_assign rfl) ?_
          refine TL_nil ?_
          refine T_keepH [6, 7] [11, 19, 315] rfl rfl rfl rfl (by rw [hF]; rfl) ?_
          refine T_deepen 19 (p' := false) (List.map a_i64 u2.1) (by rw [hF]; rfl) rfl (ElR.map (f := a_i64) (g := a_i64) (fun _ => ⟨⟨rfl, rfl⟩, trivial⟩) u2.1) rfl rfl rfl ?_
          refine T_deepen 315 (p' := false) (List.map a_i64 u3.1) (by rw [hF]; rfl) rfl (ElR.map (f := a_i64) (g := a_i64) (fun _ => ⟨⟨rfl, rfl⟩, trivial⟩) u3.1) rfl rfl rfl ?_
          refine T_ren [(11, 11), (19, 1000), (315, 1001)] rfl rfl rfl (by rw [hF]; rfl) ?_
          refine T_ret ?_
          obtain rfl := someI hm
          refine ⟨[_, _], [1000, 1001], ⟨⟨_, _, rfl, rfl, .inr ⟨ag91, _, _, sz91, rfl, rfl⟩⟩, rfl, trivial⟩, ?_, rfl, rfl, rfl, rfl⟩
          rfl
        · unfold m_spec_l06Mix_L3 at hm
          refine T_seq ?_
          refine T_seq ?_
          refine T_region ?_
          refine TL_pure rfl rfl rfl rfl (op_move rfl) ?_
          refine TL_pure rfl rfl rfl rfl (op_fieldAddr fa91_2 rfl rfl) ?_
          refine TL_pure rfl rfl rfl rfl (op_load_one ag26 rfl rfl) ?_
          refine TL_pure rfl rfl rfl rfl (op_lenO Try.underlying26 rfl rfl (List.length_map _)) ?_
          refine TL_fact (fun _ _ _ hr => RelP.owLen (id := 315) rfl hr) (fun hlen173 => ?_)
          rw [List.length_map] at hlen173
          refine TL_pure rfl rfl rfl rfl (op_lss rfl rfl) ?_
          refine TL_nil ?_
          refine T_cond rfl (fun hq => ?_) (fun hq => ?_)
          · replace hm := condT hq hm
            refine T_skip ?_
            refine T_seq ?_
            refine T_block ?_
            refine T_seq ?_
            refine T_region ?_
            refine TL_pure rfl rfl rfl rfl (op_fieldAddr fa91_2 rfl rfl) ?_
            refine TL_pure rfl rfl rfl rfl (op_load_one ag26 rfl rfl) ?_
            refine TL_pure rfl rfl rfl rfl (op_move rfl) ?_
            obtain ⟨x180, hx180, hm⟩ := bindS hm
            refine TL_pure rfl rfl rfl rfl (op_indexO el26 rfl rfl rfl hx180) ?_
            refine TL_pure rfl rfl rfl rfl (op_loadT1 ag2 rfl rfl ((getI_spec hx180).2) rfl rfl) ?_
            refine TL_pure rfl rfl rfl rfl (op_move rfl) ?_
            obtain ⟨q183, hq183, hm⟩ := bindS hm
            refine TL_pure rfl rfl rfl rfl (op_quoT rfl rfl hq183) ?_
            refine TL_pure rfl rfl rfl rfl (op_indexO el26 rfl rfl rfl hx180) ?_
            refine TL_storeT sz2 rfl rfl ((getI_spec hx180).2) (v' := q183) rfl rfl rfl rfl rfl rfl rfl rfl rfl rfl ?_
            refine TL_nil ?_
            refine T_region ?_
            refine TL_pure rfl rfl rfl rfl (op_move rfl) ?_
            refine TL_pure rfl rfl rfl rfl (op_move rfl) ?_
            refine TL_split 186 rfl rfl rfl (fun hq => ?_) (fun hq => ?_)
            · replace hm := condT hq hm
              refine TL_want rfl rfl ?_
              refine TL_pure rfl rfl rfl rfl (op_fieldAddr fa91_2 rfl rfl) ?_
              refine TL_want rfl rfl ?_
              refine TL_pure rfl rfl rfl rfl (op_load_one ag26 rfl rfl) ?_
              refine TL_want rfl rfl ?_
              refine TL_pure rfl rfl rfl rfl (op_move rfl) ?_
              refine TL_want rfl rfl ?_
              obtain ⟨x190, hx190, hm⟩ := bindS hm
              refine TL_pure rfl rfl rfl rfl (op_indexO el26 rfl rfl rfl hx190) ?_
              refine TL_want rfl rfl ?_
              refine TL_pure rfl rfl rfl rfl (op_loadT1 ag2 rfl rfl ((getI_spec hx190).2) rfl rfl) ?_
              refine TL_want rfl rfl ?_
              obtain ⟨r192, hr192, hm⟩ := bindS hm
              refine TL_callF (c_spec_l02Number x190 r192 hr192) Try.call112 rfl rfl rfl rfl rfl ?_
              refine TL_pure rfl rfl rfl rfl (op_pick_true rfl rfl) ?_
              refine TL_pure rfl rfl rfl rfl (op_assign rfl) ?_
              refine TL_nil ?_
              refine T_region ?_
              refine TL_pure rfl rfl rfl rfl (op_move rfl) ?_
              refine TL_pure rfl rfl rfl rfl (op_addW rfl rfl) ?_
              refine TL_pure rfl rfl rfl rfl (op_assign rfl) ?_
              refine TL_nil ?_
              refine TR_keepH [6, 10, 11, 14, 16] [11, 15, 19, 315] rfl rfl rfl rfl (by rw [hF]; rfl) ?_
              obtain rfl := someI hm
              have hn := CtlOK_next hc3
              exact hn _ rfl
            · replace hm := condF hq hm
              refine TL_pass rfl rfl rfl rfl rfl rfl rfl ?_
              refine TL_pass rfl rfl rfl rfl rfl rfl rfl ?_
              refine TL_pass rfl rfl rfl rfl rfl rfl rfl ?_
              refine TL_pass rfl rfl rfl rfl rfl rfl rfl ?_
              refine TL_pass rfl rfl rfl rfl rfl rfl rfl ?_
              refine TL_pass rfl rfl rfl rfl rfl rfl rfl ?_
              refine TL_pure rfl rfl rfl rfl (op_pick_false rfl rfl) ?_
              refine TL_pure rfl rfl rfl rfl (op_assign rfl) ?_
              refine TL_nil ?_
              refine T_region ?_
              refine TL_pure rfl rfl rfl rfl (op_move rfl) ?_
              refine TL_pure rfl rfl rfl rfl (op_addW rfl rfl) ?_
              refine TL_pure rfl rfl rfl rfl (op_assign rfl) ?_
              refine TL_nil ?_
              refine TR_keepH [6, 10, 11, 14, 16] [11, 15, 19, 315] rfl rfl rfl rfl (by rw [hF]; rfl) ?_
              obtain rfl := someI hm
              have hn := CtlOK_next hc3
              exact hn _ rfl
          · replace hm := condF hq hm
            refine T_keepH [6, 11, 14] [11, 15, 19, 315] rfl rfl rfl rfl (by rw [hF]; rfl) ?_
            refine T_exit ?_
            obtain rfl := someI hm
            have hn := CtlOK_out hc3
            exact hx3 (s3.1, s3.2.1) hn
      · unfold m_spec_l06Mix_L2 at hm
        refine T_seq ?_
        refine T_seq ?_
        refine T_region ?_
        refine TL_pure rfl rfl rfl rfl (op_move rfl) ?_
        refine TL_pure rfl rfl rfl rfl (op_fieldAddr fa91_1 rfl rfl) ?_
        refine TL_pure rfl rfl rfl rfl (op_load_one ag26 rfl rfl) ?_
        refine TL_pure rfl rfl rfl rfl (op_lenO Try.underlying26 rfl rfl (List.length_map _)) ?_
        refine TL_fact (fun _ _ _ hr => RelP.owLen (id := 19) rfl hr) (fun hlen149 => ?_)
        rw [List.length_map] at hlen149
        refine TL_pure rfl rfl rfl rfl (op_lss rfl rfl) ?_
        refine TL_nil ?_
        refine T_cond rfl (fun hq => ?_) (fun hq => ?_)
        · replace hm := condT hq hm
          refine T_skip ?_
          refine T_seq ?_
          refine T_block ?_
          refine T_seq ?_
          refine T_region ?_
          refine TL_pure rfl rfl rfl rfl (op_fieldAddr fa91_1 rfl rfl) ?_
          refine TL_pure rfl rfl rfl rfl (op_load_one ag26 rfl rfl) ?_
          refine TL_pure rfl rfl rfl rfl (op_move rfl) ?_
          obtain ⟨x156, hx156, hm⟩ := bindS hm
          refine TL_pure rfl rfl rfl rfl (op_indexO el26 rfl rfl rfl hx156) ?_
          refine TL_pure rfl rfl rfl rfl (op_loadT1 ag2 rfl rfl ((getI_spec hx156).2) rfl rfl) ?_
          refine TL_pure rfl rfl rfl rfl (op_move rfl) ?_
          obtain ⟨q159, hq159, hm⟩ := bindS hm
          refine TL_pure rfl rfl rfl rfl (op_quoT rfl rfl hq159) ?_
          refine TL_pure rfl rfl rfl rfl (op_indexO el26 rfl rfl rfl hx156) ?_
          refine TL_storeT sz2 rfl rfl ((getI_spec hx156).2) (v' := q159) rfl rfl rfl rfl rfl rfl rfl rfl rfl rfl ?_
          refine TL_nil ?_
          refine T_region ?_
          refine TL_pure rfl rfl rfl rfl (op_move rfl) ?_
          refine TL_pure rfl rfl rfl rfl (op_move rfl) ?_
          refine TL_split 162 rfl rfl rfl (fun hq => ?_) (fun hq => ?_)
          · replace hm := condT hq hm
            refine TL_want rfl rfl ?_
            refine TL_pure rfl rfl rfl rfl (op_fieldAddr fa91_1 rfl rfl) ?_
            refine TL_want rfl rfl ?_
            refine TL_pure rfl rfl rfl rfl (op_load_one ag26 rfl rfl) ?_
            refine TL_want rfl rfl ?_
            refine TL_pure rfl rfl rfl rfl (op_move rfl) ?_
            refine TL_want rfl rfl ?_
            obtain ⟨x166, hx166, hm⟩ := bindS hm
            refine TL_pure rfl rfl rfl rfl (op_indexO el26 rfl rfl rfl hx166) ?_
            refine TL_want rfl rfl ?_
            refine TL_pure rfl rfl rfl rfl (op_loadT1 ag2 rfl rfl ((getI_spec hx166).2) rfl rfl) ?_
            refine TL_want rfl rfl ?_
            obtain ⟨r168, hr168, hm⟩ := bindS hm
            refine TL_callF (c_spec_l02Number x166 r168 hr168) Try.call112 rfl rfl rfl rfl rfl ?_
            refine TL_pure rfl rfl rfl rfl (op_pick_true rfl rfl) ?_
            refine TL_pure rfl rfl rfl rfl (op_assign rfl) ?_
            refine TL_nil ?_
            refine T_region ?_
            refine TL_pure rfl rfl rfl rfl (op_move rfl) ?_
            refine TL_pure rfl rfl rfl rfl (op_addW rfl rfl) ?_
            refine TL_pure rfl rfl rfl rfl (op_assign rfl) ?_
            refine TL_nil ?_
            refine TR_keepH [6, 10, 11, 14, 15] [11, 15, 19, 315] rfl rfl rfl rfl (by rw [hF]; rfl) ?_
            obtain rfl := someI hm
            have hn := CtlOK_next hc2
            exact hn _ rfl
          · replace hm := condF hq hm
            refine TL_pass rfl rfl rfl rfl rfl rfl rfl ?_
            refine TL_pass rfl rfl rfl rfl rfl rfl rfl ?_
            refine TL_pass rfl rfl rfl rfl rfl rfl rfl ?_
            refine TL_pass rfl rfl rfl rfl rfl rfl rfl ?_
            refine TL_pass rfl rfl rfl rfl rfl rfl rfl ?_
            refine TL_pass rfl rfl rfl rfl rfl rfl rfl ?_
            refine TL_pure rfl rfl rfl rfl (op_pick_false rfl rfl) ?_
            refine TL_pure rfl rfl rfl rfl (op_assign rfl) ?_
            refine TL_nil ?_
            refine T_region ?_
            refine TL_pure rfl rfl rfl rfl (op_move rfl) ?_
            refine TL_pure rfl rfl rfl rfl (op_addW rfl rfl) ?_
            refine TL_pure rfl rfl rfl rfl (op_assign rfl) ?_
            refine TL_nil ?_
            refine TR_keepH [6, 10, 11, 14, 15] [11, 15, 19, 315] rfl rfl rfl rfl (by rw [hF]; rfl) ?_
            obtain rfl := someI hm
            have hn := CtlOK_next hc2
            exact hn _ rfl
        · replace hm := condF hq hm
          refine T_keepH [6, 10, 11, 14] [11, 15, 19, 315] rfl rfl rfl rfl (by rw [hF]; rfl) ?_
          refine T_exit ?_
          obtain rfl := someI hm
          have hn := CtlOK_out hc2
          exact hx2 (s2.1, s2.2.1) hn
    · unfold m_spec_l06Mix_L1 at hm
      refine T_seq ?_
      refine T_seq ?_
      refine T_region ?_
      refine TL_pure rfl rfl rfl rfl (op_move rfl) ?_
      refine TL_pure rfl rfl rfl rfl (op_move rfl) ?_
      refine TL_pure rfl rfl rfl rfl (op_nilCheck rfl rfl) ?_
      refine TL_pure rfl rfl rfl rfl (op_fieldAddr fa91_2 rfl rfl) ?_
      refine TL_pure rfl rfl rfl rfl (op_load_one ag26 rfl rfl) ?_
      refine TL_pure rfl rfl rfl rfl (op_lenT Try.underlying26 rfl (List.length_map _)) ?_
      refine TL_fact (fun _ _ _ hr => RelP.slLen (i := 102) rfl hr) (fun hlen103 => ?_)
      rw [List.length_map] at hlen103
      refine TL_pure rfl rfl rfl rfl (op_lss rfl rfl) ?_
      refine TL_nil ?_
      refine T_cond rfl (fun hq => ?_) (fun hq => ?_)
      · replace hm := condT hq hm
        refine T_skip ?_
        refine T_seq ?_
        refine T_block ?_
        refine T_join (fun (j1 : List Int) => ⟨[(0, .cp [.int .i64 p0.c, .sl 1 (List.map a_i64 p0.list), .sl 1 (List.map a_i64 p0.times)]), (1, .cp [.int .i64 p1.c, .sl 1 (List.map a_i64 p1.list), .sl 1 (List.map a_i64 p1.times)]), (6, .ptr 11 0 0), (8, .int .i64 q37), (9, .int .i64 q40), (10, .int .i64 s1.1), (11, .ptr 15 0 0), (13, .int .i64 s1.2.2)], [(11, .box [.int .i64 (0 : Int), .snil, .snil]), (15, .box [.int .i64 (w64 ((w64 (q40 * p0.c)) + (w64 (q37 * p1.c)))), .ow 19, .ow 315]), (19, .arr ⟨false, false⟩ 1 2 (List.map a_i64 u0.2)), (315, .arr ⟨false, false⟩ 1 2 (List.map a_i64 j1))]⟩) (fun j1 => m_spec_l06Mix_J1 s1 j1 = some c1) (fun j1 hm => ?_) (fun hj1 => ?_)
        · unfold m_spec_l06Mix_J1 at hm
          refine T_region ?_
          refine TL_pure rfl rfl rfl rfl (op_move rfl) ?_
          refine TL_pure rfl rfl rfl rfl (op_fieldAddr fa91_2 rfl rfl) ?_
          refine TL_pure rfl rfl rfl rfl (op_load_one ag26 rfl rfl) ?_
          refine TL_pure rfl rfl rfl rfl (op_move rfl) ?_
          obtain ⟨x135, hx135, hm⟩ := bindS hm
          refine TL_pure rfl rfl rfl rfl (op_indexO el26 rfl rfl rfl hx135) ?_
          refine TL_pure rfl rfl rfl rfl (op_loadT1 ag2 rfl rfl ((getI_spec hx135).2) rfl rfl) ?_
          obtain ⟨r137, hr137, hm⟩ := bindS hm
          refine TL_callF (c_spec_l06Gcd s1.1 x135 r137 hr137) Try.call118 rfl rfl rfl rfl rfl ?_
          refine TL_pure rfl rfl rfl rfl (op_assign rfl) ?_
          refine TL_nil ?_
          refine T_region ?_
          refine TL_pure rfl rfl rfl rfl (op_move rfl) ?_
          refine TL_pure rfl rfl rfl rfl (op_addW rfl rfl) ?_
          refine TL_pure rfl rfl rfl rfl (op_assign rfl) ?_
          refine TL_nil ?_
          refine TR_keepH [0, 1, 6, 8, 9, 10, 11, 13] [11, 15, 19, 315] rfl rfl rfl rfl (by rw [hF]; rfl) ?_
          obtain rfl := someI hm
          have hn := CtlOK_next hc1
          exact hn _ rfl
        · refine T_drawZ [21, 22, 24] mix (by kernel_rfl) rfl ?_
          obtain ⟨x115, hx115, hm⟩ := bindS hm
          obtain ⟨x124, hx124, hm⟩ := bindS hm
          obtain ⟨q129, hq129, hm⟩ := bindS hm
          refine TZ_pure 0 (by kernel_rfl) rfl rfl rfl rfl rfl (op_fieldAddr fa91_2 rfl rfl) ?_
          refine TZ_pure 2 (by kernel_rfl) rfl rfl rfl rfl rfl (op_move rfl) ?_
          refine TZ_pure 3 (by kernel_rfl) rfl rfl rfl rfl rfl (op_move rfl) ?_
          refine TZ_pure 4 (by kernel_rfl) rfl rfl rfl rfl rfl (op_nilCheck rfl rfl) ?_
          refine TZ_pure 5 (by kernel_rfl) rfl rfl rfl rfl rfl (op_fieldAddr fa91_2 rfl rfl) ?_
          refine TZ_pure 7 (by kernel_rfl) rfl rfl rfl rfl rfl (op_move rfl) ?_
          refine TZ_pure 11 (by kernel_rfl) rfl rfl rfl rfl rfl (op_move rfl) ?_
          refine TZ_pure 12 (by kernel_rfl) rfl rfl rfl rfl rfl (op_move rfl) ?_
          refine TZ_pure 13 (by kernel_rfl) rfl rfl rfl rfl rfl (op_nilCheck rfl rfl) ?_
          refine TZ_pure 14 (by kernel_rfl) rfl rfl rfl rfl rfl (op_fieldAddr fa91_2 rfl rfl) ?_
          refine TZ_pure 16 (by kernel_rfl) rfl rfl rfl rfl rfl (op_move rfl) ?_
          refine TZ_each [1, 6, 15] (by kernel_rfl) rfl ?_
          refine ⟨?_, ?_, ?_⟩
          · refine ⟨_, rfl, ?_⟩
            refine TL_pure rfl rfl rfl rfl (op_load_one ag26 rfl rfl) ?_
            refine TL_nil ?_
            refine TZ_each [6, 15] (by kernel_rfl) rfl ?_
            refine ⟨?_, ?_⟩
            · refine ⟨_, rfl, ?_⟩
              refine TL_pure rfl rfl rfl rfl (op_load_one ag26 rfl rfl) ?_
              refine TL_nil ?_
              refine TZ_pure 8 (by kernel_rfl) rfl rfl rfl rfl rfl (op_indexT el26 rfl rfl hx115 rfl) ?_
              refine TZ_each [9, 15] (by kernel_rfl) rfl ?_
              refine ⟨?_, ?_⟩
              · refine ⟨_, rfl, ?_⟩
                refine TL_pure rfl rfl rfl rfl (op_load_one ag2 rfl rfl) ?_
                refine TL_nil ?_
                refine TZ_pure 10 (by kernel_rfl) rfl rfl rfl rfl rfl (op_mulW rfl rfl) ?_
                refine TZ_one 15 (by kernel_rfl) rfl ?_
                refine TL_pure rfl rfl rfl rfl (op_load_one ag26 rfl rfl) ?_
                refine TL_nil ?_
                refine TZ_pure 17 (by kernel_rfl) rfl rfl rfl rfl rfl (op_indexT el26 rfl rfl hx124 rfl) ?_
                refine TZ_one 18 (by kernel_rfl) rfl ?_
                refine TL_pure rfl rfl rfl rfl (op_load_one ag2 rfl rfl) ?_
                refine TL_nil ?_
                refine TZ_pure 19 (by kernel_rfl) rfl rfl rfl rfl rfl (op_mulW rfl rfl) ?_
                refine TZ_pure 20 (by kernel_rfl) rfl rfl rfl rfl rfl (op_addW rfl rfl) ?_
                refine TZ_one 21 (by kernel_rfl) rfl ?_
                refine TL_buildSlice 572 (es := List.map a_i64 [(w64 ((w64 (q40 * x115)) + (w64 (q37 * x124))))]) el26 z2 rfl rfl rfl rfl rfl rfl rfl rfl rfl ?_
                refine TL_nil ?_
                refine TZ_one 22 (by kernel_rfl) rfl ?_
                refine TL_appendT (f := a_i64) (a := s1.2.1) (b := [(w64 ((w64 (q40 * x115)) + (w64 (q37 * x124))))]) el26 z2 rfl rfl rfl rfl rfl rfl rfl (capI_spec hq129) rfl rfl rfl rfl rfl ?_
                refine TL_nil ?_
                refine TZ_pure 23 (by kernel_rfl) rfl rfl rfl rfl rfl (op_fieldAddr fa91_2 rfl rfl) ?_
                refine TZ_one 24 (by kernel_rfl) rfl ?_
                refine TL_store_box sz26 rfl rfl rfl rfl rfl rfl rfl rfl rfl ?_
                refine TL_nil ?_
                refine TZ_done (by kernel_rfl) ?_
                refine T_keepH [0, 1, 6, 8, 9, 10, 11, 13] [11, 15, 19, 315] rfl rfl rfl rfl (by rw [hF]; rfl) ?_
                exact hj1 (s1.2.1 ++ [(w64 ((w64 (q40 * x115)) + (w64 (q37 * x124))))]) hm
              · refine ⟨_, rfl, ?_⟩
                refine TL_pure rfl rfl rfl rfl (op_load_one ag26 rfl rfl) ?_
                refine TL_nil ?_
                refine TZ_pure 17 (by kernel_rfl) rfl rfl rfl rfl rfl (op_indexT el26 rfl rfl hx124 rfl) ?_
                refine TZ_each [9, 18] (by kernel_rfl) rfl ?_
                refine ⟨?_, ?_⟩
                · refine ⟨_, rfl, ?_⟩
                  refine TL_pure rfl rfl rfl rfl (op_load_one ag2 rfl rfl) ?_
                  refine TL_nil ?_
                  refine TZ_pure 10 (by kernel_rfl) rfl rfl rfl rfl rfl (op_mulW rfl rfl) ?_
                  refine TZ_one 18 (by kernel_rfl) rfl ?_
                  refine TL_pure rfl rfl rfl rfl (op_load_one ag2 rfl rfl) ?_
                  refine TL_nil ?_
                  refine TZ_pure 19 (by kernel_rfl) rfl rfl rfl rfl rfl (op_mulW rfl rfl) ?_
                  refine TZ_pure 20 (by kernel_rfl) rfl rfl rfl rfl rfl (op_addW rfl rfl) ?_
                  refine TZ_one 21 (by kernel_rfl) rfl ?_
                  refine TL_buildSlice 573 (es := List.map a_i64 [(w64 ((w64 (q40 * x115)) + (w64 (q37 * x124))))]) el26 z2 rfl rfl rfl rfl rfl rfl rfl rfl rfl ?_
                  refine TL_nil ?_
                  refine TZ_one 22 (by kernel_rfl) rfl ?_
                  refine TL_appendT (f := a_i64) (a := s1.2.1) (b := [(w64 ((w64 (q40 * x115)) + (w64 (q37 * x124))))]) el26 z2 rfl rfl rfl rfl rfl rfl rfl (capI_spec hq129) rfl rfl rfl rfl rfl ?_
                  refine TL_nil ?_
                  refine TZ_pure 23 (by kernel_rfl) rfl rfl rfl rfl rfl (op_fieldAddr fa91_2 rfl rfl) ?_
                  refine TZ_one 24 (by kernel_rfl) rfl ?_
                  refine TL_store_box sz26 rfl rfl rfl rfl rfl rfl rfl rfl rfl ?_
                  refine TL_nil ?_
                  refine TZ_done (by kernel_rfl) ?_
                  refine T_keepH [0, 1, 6, 8, 9, 10, 11, 13] [11, 15, 19, 315] rfl rfl rfl rfl (by rw [hF]; rfl) ?_
                  exact hj1 (s1.2.1 ++ [(w64 ((w64 (q40 * x115)) + (w64 (q37 * x124))))]) hm
                · refine ⟨_, rfl, ?_⟩
                  refine TL_pure rfl rfl rfl rfl (op_load_one ag2 rfl rfl) ?_
                  refine TL_nil ?_
                  refine TZ_pure 19 (by kernel_rfl) rfl rfl rfl rfl rfl (op_mulW rfl rfl) ?_
                  refine TZ_one 9 (by kernel_rfl) rfl ?_
                  refine TL_pure rfl rfl rfl rfl (op_load_one ag2 rfl rfl) ?_
                  refine TL_nil ?_
                  refine TZ_pure 10 (by kernel_rfl) rfl rfl rfl rfl rfl (op_mulW rfl rfl) ?_
                  refine TZ_pure 20 (by kernel_rfl) rfl rfl rfl rfl rfl (op_addW rfl rfl) ?_
                  refine TZ_one 21 (by kernel_rfl) rfl ?_
                  refine TL_buildSlice 574 (es := List.map a_i64 [(w64 ((w64 (q40 * x115)) + (w64 (q37 * x124))))]) el26 z2 rfl rfl rfl rfl rfl rfl rfl rfl rfl ?_
                  refine TL_nil ?_
                  refine TZ_one 22 (by kernel_rfl) rfl ?_
                  refine TL_appendT (f := a_i64) (a := s1.2.1) (b := [(w64 ((w64 (q40 * x115)) + (w64 (q37 * x124))))]) el26 z2 rfl rfl rfl rfl rfl rfl rfl (capI_spec hq129) rfl rfl rfl rfl rfl ?_
                  refine TL_nil ?_
                  refine TZ_pure 23 (by kernel_rfl) rfl rfl rfl rfl rfl (op_fieldAddr fa91_2 rfl rfl) ?_
                  refine TZ_one 24 (by kernel_rfl) rfl ?_
                  refine TL_store_box sz26 rfl rfl rfl rfl rfl rfl rfl rfl rfl ?_
                  refine TL_nil ?_
                  refine TZ_done (by kernel_rfl) ?_
                  refine T_keepH [0, 1, 6, 8, 9, 10, 11, 13] [11, 15, 19, 315] rfl rfl rfl rfl (by rw [hF]; rfl) ?_
                  exact hj1 (s1.2.1 ++ [(w64 ((w64 (q40 * x115)) + (w64 (q37 * x124))))]) hm
            · refine ⟨_, rfl, ?_⟩
              refine TL_pure rfl rfl rfl rfl (op_load_one ag26 rfl rfl) ?_
              refine TL_nil ?_
              refine TZ_pure 17 (by kernel_rfl) rfl rfl rfl rfl rfl (op_indexT el26 rfl rfl hx124 rfl) ?_
              refine TZ_each [6, 18] (by kernel_rfl) rfl ?_
              refine ⟨?_, ?_⟩
              · refine ⟨_, rfl, ?_⟩
                refine TL_pure rfl rfl rfl rfl (op_load_one ag26 rfl rfl) ?_
                refine TL_nil ?_
                refine TZ_pure 8 (by kernel_rfl) rfl rfl rfl rfl rfl (op_indexT el26 rfl rfl hx115 rfl) ?_
                refine TZ_each [9, 18] (by kernel_rfl) rfl ?_
                refine ⟨?_, ?_⟩
                · refine ⟨_, rfl, ?_⟩
                  refine TL_pure rfl rfl rfl rfl (op_load_one ag2 rfl rfl) ?_
                  refine TL_nil ?_
                  refine TZ_pure 10 (by kernel_rfl) rfl rfl rfl rfl rfl (op_mulW rfl rfl) ?_
                  refine TZ_one 18 (by kernel_rfl) rfl ?_
                  refine TL_pure rfl rfl rfl rfl (op_load_one ag2 rfl rfl) ?_
                  refine TL_nil ?_
                  refine TZ_pure 19 (by kernel_rfl) rfl rfl rfl rfl rfl (op_mulW rfl rfl) ?_
                  refine TZ_pure 20 (by kernel_rfl) rfl rfl rfl rfl rfl (op_addW rfl rfl) ?_
                  refine TZ_one 21 (by kernel_rfl) rfl ?_
                  refine TL_buildSlice 575 (es := List.map a_i64 [(w64 ((w64 (q40 * x115)) + (w64 (q37 * x124))))]) el26 z2 rfl rfl rfl rfl rfl rfl rfl rfl rfl ?_
                  refine TL_nil ?_
                  refine TZ_one 22 (by kernel_rfl) rfl ?_
                  refine TL_appendT (f := a_i64) (a := s1.2.1) (b := [(w64 ((w64 (q40 * x115)) + (w64 (q37 * x124))))]) el26 z2 rfl rfl rfl rfl rfl rfl rfl (capI_spec hq129) rfl rfl rfl rfl rfl ?_
                  refine TL_nil ?_
                  refine TZ_pure 23 (by kernel_rfl) rfl rfl rfl rfl rfl (op_fieldAddr fa91_2 rfl rfl) ?_
                  refine TZ_one 24 (by kernel_rfl) rfl ?_
                  refine TL_store_box sz26 rfl rfl rfl rfl rfl rfl rfl rfl rfl ?_
                  refine TL_nil ?_
                  refine TZ_done (by kernel_rfl) ?_
                  refine T_keepH [0, 1, 6, 8, 9, 10, 11, 13] [11, 15, 19, 315] rfl rfl rfl rfl (by rw [hF]; rfl) ?_
                  exact hj1 (s1.2.1 ++ [(w64 ((w64 (q40 * x115)) + (w64 (q37 * x124))))]) hm
                · refine ⟨_, rfl, ?_⟩
                  refine TL_pure rfl rfl rfl rfl (op_load_one ag2 rfl rfl) ?_
                  refine TL_nil ?_
                  refine TZ_pure 19 (by kernel_rfl) rfl rfl rfl rfl rfl (op_mulW rfl rfl) ?_
                  refine TZ_one 9 (by kernel_rfl) rfl ?_
                  refine TL_pure rfl rfl rfl rfl (op_load_one ag2 rfl rfl) ?_
                  refine TL_nil ?_
                  refine TZ_pure 10 (by kernel_rfl) rfl rfl rfl rfl rfl (op_mulW rfl rfl) ?_
                  refine TZ_pure 20 (by kernel_rfl) rfl rfl rfl rfl rfl (op_addW rfl rfl) ?_
                  refine TZ_one 21 (by kernel_rfl) rfl ?_
                  refine TL_buildSlice 576 (es := List.map a_i64 [(w64 ((w64 (q40 * x115)) + (w64 (q37 * x124))))]) el26 z2 rfl rfl rfl rfl rfl rfl rfl rfl rfl ?_
                  refine TL_nil ?_
                  refine TZ_one 22 (by kernel_rfl) rfl ?_
                  refine TL_appendT (f := a_i64) (a := s1.2.1) (b := [(w64 ((w64 (q40 * x115)) + (w64 (q37 * x124))))]) el26 z2 rfl rfl rfl rfl rfl rfl rfl (capI_spec hq129) rfl rfl rfl rfl rfl ?_
                  refine TL_nil ?_
                  refine TZ_pure 23 (by kernel_rfl) rfl rfl rfl rfl rfl (op_fieldAddr fa91_2 rfl rfl) ?_
                  refine TZ_one 24 (by kernel_rfl) rfl ?_
                  refine TL_store_box sz26 rfl rfl rfl rfl rfl rfl rfl rfl rfl ?_
                  refine TL_nil ?_
                  refine TZ_done (by kernel_rfl) ?_
                  refine T_keepH [0, 1, 6, 8, 9, 10, 11, 13] [11, 15, 19, 315] rfl rfl rfl rfl (by rw [hF]; rfl) ?_
                  exact hj1 (s1.2.1 ++ [(w64 ((w64 (q40 * x115)) + (w64 (q37 * x124))))]) hm
              · refine ⟨_, rfl, ?_⟩
                refine TL_pure rfl rfl rfl rfl (op_load_one ag2 rfl rfl) ?_
                refine TL_nil ?_
                refine TZ_pure 19 (by kernel_rfl) rfl rfl rfl rfl rfl (op_mulW rfl rfl) ?_
                refine TZ_one 6 (by kernel_rfl) rfl ?_
                refine TL_pure rfl rfl rfl rfl (op_load_one ag26 rfl rfl) ?_
                refine TL_nil ?_
                refine TZ_pure 8 (by kernel_rfl) rfl rfl rfl rfl rfl (op_indexT el26 rfl rfl hx115 rfl) ?_
                refine TZ_one 9 (by kernel_rfl) rfl ?_
                refine TL_pure rfl rfl rfl rfl (op_load_one ag2 rfl rfl) ?_
                refine TL_nil ?_
                refine TZ_pure 10 (by kernel_rfl) rfl rfl rfl rfl rfl (op_mulW rfl rfl) ?_
                refine TZ_pure 20 (by kernel_rfl) rfl rfl rfl rfl rfl (op_addW rfl rfl) ?_
                refine TZ_one 21 (by kernel_rfl) rfl ?_
                refine TL_buildSlice 577 (es := List.map a_i64 [(w64 ((w64 (q40 * x115)) + (w64 (q37 * x124))))]) el26 z2 rfl rfl rfl rfl rfl rfl rfl rfl rfl ?_
                refine TL_nil ?_
                refine TZ_one 22 (by kernel_rfl) rfl ?_
                refine TL_appendT (f := a_i64) (a := s1.2.1) (b := [(w64 ((w64 (q40 * x115)) + (w64 (q37 * x124))))]) el26 z2 rfl rfl rfl rfl rfl rfl rfl (capI_spec hq129) rfl rfl rfl rfl rfl ?_
                refine TL_nil ?_
                refine TZ_pure 23 (by kernel_rfl) rfl rfl rfl rfl rfl (op_fieldAddr fa91_2 rfl rfl) ?_
                refine TZ_one 24 (by kernel_rfl) rfl ?_
                refine TL_store_box sz26 rfl rfl rfl rfl rfl rfl rfl rfl rfl ?_
                refine TL_nil ?_
                refine TZ_done (by kernel_rfl) ?_
                refine T_keepH [0, 1, 6, 8, 9, 10, 11, 13] [11, 15, 19, 315] rfl rfl rfl rfl (by rw [hF]; rfl) ?_
                exact hj1 (s1.2.1 ++ [(w64 ((w64 (q40 * x115)) + (w64 (q37 * x124))))]) hm
          · refine ⟨_, rfl, ?_⟩
            refine TL_pure rfl rfl rfl rfl (op_load_one ag26 rfl rfl) ?_
            refine TL_nil ?_
            refine TZ_pure 8 (by kernel_rfl) rfl rfl rfl rfl rfl (op_indexT el26 rfl rfl hx115 rfl) ?_
            refine TZ_each [1, 9, 15] (by kernel_rfl) rfl ?_
            refine ⟨?_, ?_, ?_⟩
            · refine ⟨_, rfl, ?_⟩
              refine TL_pure rfl rfl rfl rfl (op_load_one ag26 rfl rfl) ?_
              refine TL_nil ?_
              refine TZ_each [9, 15] (by kernel_rfl) rfl ?_
              refine ⟨?_, ?_⟩
              · refine ⟨_, rfl, ?_⟩
                refine TL_pure rfl rfl rfl rfl (op_load_one ag2 rfl rfl) ?_
                refine TL_nil ?_
                refine TZ_pure 10 (by kernel_rfl) rfl rfl rfl rfl rfl (op_mulW rfl rfl) ?_
                refine TZ_one 15 (by kernel_rfl) rfl ?_
                refine TL_pure rfl rfl rfl rfl (op_load_one ag26 rfl rfl) ?_
                refine TL_nil ?_
                refine TZ_pure 17 (by kernel_rfl) rfl rfl rfl rfl rfl (op_indexT el26 rfl rfl hx124 rfl) ?_
                refine TZ_one 18 (by kernel_rfl) rfl ?_
                refine TL_pure rfl rfl rfl rfl (op_load_one ag2 rfl rfl) ?_
                refine TL_nil ?_
                refine TZ_pure 19 (by kernel_rfl) rfl rfl rfl rfl rfl (op_mulW rfl rfl) ?_
                refine TZ_pure 20 (by kernel_rfl) rfl rfl rfl rfl rfl (op_addW rfl rfl) ?_
                refine TZ_one 21 (by kernel_rfl) rfl ?_
                refine TL_buildSlice 578 (es := List.map a_i64 [(w64 ((w64 (q40 * x115)) + (w64 (q37 * x124))))]) el26 z2 rfl rfl rfl rfl rfl rfl rfl rfl rfl ?_
                refine TL_nil ?_
                refine TZ_one 22 (by kernel_rfl) rfl ?_
                refine TL_appendT (f := a_i64) (a := s1.2.1) (b := [(w64 ((w64 (q40 * x115)) + (w64 (q37 * x124))))]) el26 z2 rfl rfl rfl rfl rfl rfl rfl (capI_spec hq129) rfl rfl rfl rfl rfl ?_
                refine TL_nil ?_
                refine TZ_pure 23 (by kernel_rfl) rfl rfl rfl rfl rfl (op_fieldAddr fa91_2 rfl rfl) ?_
                refine TZ_one 24 (by kernel_rfl) rfl ?_
                refine TL_store_box sz26 rfl rfl rfl rfl rfl rfl rfl rfl rfl ?_
                refine TL_nil ?_
                refine TZ_done (by kernel_rfl) ?_
                refine T_keepH [0, 1, 6, 8, 9, 10, 11, 13] [11, 15, 19, 315] rfl rfl rfl rfl (by rw [hF]; rfl) ?_
                exact hj1 (s1.2.1 ++ [(w64 ((w64 (q40 * x115)) + (w64 (q37 * x124))))]) hm
              · refine ⟨_, rfl, ?_⟩
                refine TL_pure rfl rfl rfl rfl (op_load_one ag26 rfl rfl) ?_
                refine TL_nil ?_
                refine TZ_pure 17 (by kernel_rfl) rfl rfl rfl rfl rfl (op_indexT el26 rfl rfl hx124 rfl) ?_
                refine TZ_each [9, 18] (by kernel_rfl) rfl ?_
                refine ⟨?_, ?_⟩
                · refine ⟨_, rfl, ?_⟩
                  refine TL_pure rfl rfl rfl rfl (op_load_one ag2 rfl rfl) ?_
                  refine TL_nil ?_
                  refine TZ_pure 10 (by kernel_rfl) rfl rfl rfl rfl rfl (op_mulW rfl rfl) ?_
                  refine TZ_one 18 (by kernel_rfl) rfl ?_
                  refine TL_pure rfl rfl rfl rfl (op_load_one ag2 rfl rfl) ?_
                  refine TL_nil ?_
                  refine TZ_pure 19 (by kernel_rfl) rfl rfl rfl rfl rfl (op_mulW rfl rfl) ?_
                  refine TZ_pure 20 (by kernel_rfl) rfl rfl rfl rfl rfl (op_addW rfl rfl) ?_
                  refine TZ_one 21 (by kernel_rfl) rfl ?_
                  refine TL_buildSlice 579 (es := List.map a_i64 [(w64 ((w64 (q40 * x115)) + (w64 (q37 * x124))))]) el26 z2 rfl rfl rfl rfl rfl rfl rfl rfl rfl ?_
                  refine TL_nil ?_
                  refine TZ_one 22 (by kernel_rfl) rfl ?_
                  refine TL_appendT (f := a_i64) (a := s1.2.1) (b := [(w64 ((w64 (q40 * x115)) + (w64 (q37 * x124))))]) el26 z2 rfl rfl rfl rfl rfl rfl rfl (capI_spec hq129) rfl rfl rfl rfl rfl ?_
                  refine TL_nil ?_
                  refine TZ_pure 23 (by kernel_rfl) rfl rfl rfl rfl rfl (op_fieldAddr fa91_2 rfl rfl) ?_
                  refine TZ_one 24 (by kernel_rfl) rfl ?_
                  refine TL_store_box sz26 rfl rfl rfl rfl rfl rfl rfl rfl rfl ?_
                  refine TL_nil ?_
                  refine TZ_done (by kernel_rfl) ?_
                  refine T_keepH [0, 1, 6, 8, 9, 10, 11, 13] [11, 15, 19, 315] rfl rfl rfl rfl (by rw [hF]; rfl) ?_
                  exact hj1 (s1.2.1 ++ [(w64 ((w64 (q40 * x115)) + (w64 (q37 * x124))))]) hm
                · refine ⟨_, rfl, ?_⟩
                  refine TL_pure rfl rfl rfl rfl (op_load_one ag2 rfl rfl) ?_
                  refine TL_nil ?_
                  refine TZ_pure 19 (by kernel_rfl) rfl rfl rfl rfl rfl (op_mulW rfl rfl) ?_
                  refine TZ_one 9 (by kernel_rfl) rfl ?_
                  refine TL_pure rfl rfl rfl rfl (op_load_one ag2 rfl rfl) ?_
                  refine TL_nil ?_
                  refine TZ_pure 10 (by kernel_rfl) rfl rfl rfl rfl rfl (op_mulW rfl rfl) ?_
                  refine TZ_pure 20 (by kernel_rfl) rfl rfl rfl rfl rfl (op_addW rfl rfl) ?_
                  refine TZ_one 21 (by kernel_rfl) rfl ?_
                  refine TL_buildSlice 580 (es := List.map a_i64 [(w64 ((w64 (q40 * x115)) + (w64 (q37 * x124))))]) el26 z2 rfl rfl rfl rfl rfl rfl rfl rfl rfl ?_
                  refine TL_nil ?_
                  refine TZ_one 22 (by kernel_rfl) rfl ?_
                  refine TL_appendT (f := a_i64) (a := s1.2.1) (b := [(w64 ((w64 (q40 * x115)) + (w64 (q37 * x124))))]) el26 z2 rfl rfl rfl rfl rfl rfl rfl (capI_spec hq129) rfl rfl rfl rfl rfl ?_
                  refine TL_nil ?_
                  refine TZ_pure 23 (by kernel_rfl) rfl rfl rfl rfl rfl (op_fieldAddr fa91_2 rfl rfl) ?_
                  refine TZ_one 24 (by kernel_rfl) rfl ?_
                  refine TL_store_box sz26 rfl rfl rfl rfl rfl rfl rfl rfl rfl ?_
                  refine TL_nil ?_
                  refine TZ_done (by kernel_rfl) ?_
                  refine T_keepH [0, 1, 6, 8, 9, 10, 11, 13] [11, 15, 19, 315] rfl rfl rfl rfl (by rw [hF]; rfl) ?_
                  exact hj1 (s1.2.1 ++ [(w64 ((w64 (q40 * x115)) + (w64 (q37 * x124))))]) hm
            · refine ⟨_, rfl, ?_⟩
              refine TL_pure rfl rfl rfl rfl (op_load_one ag2 rfl rfl) ?_
              refine TL_nil ?_
              refine TZ_pure 10 (by kernel_rfl) rfl rfl rfl rfl rfl (op_mulW rfl rfl) ?_
              refine TZ_each [1, 15] (by kernel_rfl) rfl ?_
              refine ⟨?_, ?_⟩
              · refine ⟨_, rfl, ?_⟩
                refine TL_pure rfl rfl rfl rfl (op_load_one ag26 rfl rfl) ?_
                refine TL_nil ?_
                refine TZ_one 15 (by kernel_rfl) rfl ?_
                refine TL_pure rfl rfl rfl rfl (op_load_one ag26 rfl rfl) ?_
                refine TL_nil ?_
                refine TZ_pure 17 (by kernel_rfl) rfl rfl rfl rfl rfl (op_indexT el26 rfl rfl hx124 rfl) ?_
                refine TZ_one 18 (by kernel_rfl) rfl ?_
                refine TL_pure rfl rfl rfl rfl (op_load_one ag2 rfl rfl) ?_
                refine TL_nil ?_
                refine TZ_pure 19 (by kernel_rfl) rfl rfl rfl rfl rfl (op_mulW rfl rfl) ?_
                refine TZ_pure 20 (by kernel_rfl) rfl rfl rfl rfl rfl (op_addW rfl rfl) ?_
                refine TZ_one 21 (by kernel_rfl) rfl ?_
                refine TL_buildSlice 581 (es := List.map a_i64 [(w64 ((w64 (q40 * x115)) + (w64 (q37 * x124))))]) el26 z2 rfl rfl rfl rfl rfl rfl rfl rfl rfl ?_
                refine TL_nil ?_
                refine TZ_one 22 (by kernel_rfl) rfl ?_
                refine TL_appendT (f := a_i64) (a := s1.2.1) (b := [(w64 ((w64 (q40 * x115)) + (w64 (q37 * x124))))]) el26 z2 rfl rfl rfl rfl rfl rfl rfl (capI_spec hq129) rfl rfl rfl rfl rfl ?_
                refine TL_nil ?_
                refine TZ_pure 23 (by kernel_rfl) rfl rfl rfl rfl rfl (op_fieldAddr fa91_2 rfl rfl) ?_
                refine TZ_one 24 (by kernel_rfl) rfl ?_
                refine TL_store_box sz26 rfl rfl rfl rfl rfl rfl rfl rfl rfl ?_
                refine TL_nil ?_
                refine TZ_done (by kernel_rfl) ?_
                refine T_keepH [0, 1, 6, 8, 9, 10, 11, 13] [11, 15, 19, 315] rfl rfl rfl rfl (by rw [hF]; rfl) ?_
                exact hj1 (s1.2.1 ++ [(w64 ((w64 (q40 * x115)) + (w64 (q37 * x124))))]) hm
              · refine ⟨_, rfl, ?_⟩
                refine TL_pure rfl rfl rfl rfl (op_load_one ag26 rfl rfl) ?_
                refine TL_nil ?_
                refine TZ_pure 17 (by kernel_rfl) rfl rfl rfl rfl rfl (op_indexT el26 rfl rfl hx124 rfl) ?_
                refine TZ_each [1, 18] (by kernel_rfl) rfl ?_
                refine ⟨?_, ?_⟩
                · refine ⟨_, rfl, ?_⟩
                  refine TL_pure rfl rfl rfl rfl (op_load_one ag26 rfl rfl) ?_
                  refine TL_nil ?_
                  refine TZ_one 18 (by kernel_rfl) rfl ?_
                  refine TL_pure rfl rfl rfl rfl (op_load_one ag2 rfl rfl) ?_
                  refine TL_nil ?_
                  refine TZ_pure 19 (by kernel_rfl) rfl rfl rfl rfl rfl (op_mulW rfl rfl) ?_
                  refine TZ_pure 20 (by kernel_rfl) rfl rfl rfl rfl rfl (op_addW rfl rfl) ?_
                  refine TZ_one 21 (by kernel_rfl) rfl ?_
                  refine TL_buildSlice 582 (es := List.map a_i64 [(w64 ((w64 (q40 * x115)) + (w64 (q37 * x124))))]) el26 z2 rfl rfl rfl rfl rfl rfl rfl rfl rfl ?_
                  refine TL_nil ?_
                  refine TZ_one 22 (by kernel_rfl) rfl ?_
                  refine TL_appendT (f := a_i64) (a := s1.2.1) (b := [(w64 ((w64 (q40 * x115)) + (w64 (q37 * x124))))]) el26 z2 rfl rfl rfl rfl rfl rfl rfl (capI_spec hq129) rfl rfl rfl rfl rfl ?_
                  refine TL_nil ?_
                  refine TZ_pure 23 (by kernel_rfl) rfl rfl rfl rfl rfl (op_fieldAddr fa91_2 rfl rfl) ?_
                  refine TZ_one 24 (by kernel_rfl) rfl ?_
                  refine TL_store_box sz26 rfl rfl rfl rfl rfl rfl rfl rfl rfl ?_
                  refine TL_nil ?_
                  refine TZ_done (by kernel_rfl) ?_
                  refine T_keepH [0, 1, 6, 8, 9, 10, 11, 13] [11, 15, 19, 315] rfl rfl rfl rfl (by rw [hF]; rfl) ?_
                  exact hj1 (s1.2.1 ++ [(w64 ((w64 (q40 * x115)) + (w64 (q37 * x124))))]) hm
                · refine ⟨_, rfl, ?_⟩
                  refine TL_pure rfl rfl rfl rfl (op_load_one ag2 rfl rfl) ?_
                  refine TL_nil ?_
                  refine TZ_pure 19 (by kernel_rfl) rfl rfl rfl rfl rfl (op_mulW rfl rfl) ?_
                  refine TZ_pure 20 (by kernel_rfl) rfl rfl rfl rfl rfl (op_addW rfl rfl) ?_
                  refine TZ_each [1, 21] (by kernel_rfl) rfl ?_
                  refine ⟨?_, ?_⟩
                  · refine ⟨_, rfl, ?_⟩
                    refine TL_pure rfl rfl rfl rfl (op_load_one ag26 rfl rfl) ?_
                    refine TL_nil ?_
                    refine TZ_one 21 (by kernel_rfl) rfl ?_
                    refine TL_buildSlice 584 (es := List.map a_i64 [(w64 ((w64 (q40 * x115)) + (w64 (q37 * x124))))]) el26 z2 rfl rfl rfl rfl rfl rfl rfl rfl rfl ?_
                    refine TL_nil ?_
                    refine TZ_one 22 (by kernel_rfl) rfl ?_
                    refine TL_appendT (f := a_i64) (a := s1.2.1) (b := [(w64 ((w64 (q40 * x115)) + (w64 (q37 * x124))))]) el26 z2 rfl rfl rfl rfl rfl rfl rfl (capI_spec hq129) rfl rfl rfl rfl rfl ?_
                    refine TL_nil ?_
                    refine TZ_pure 23 (by kernel_rfl) rfl rfl rfl rfl rfl (op_fieldAddr fa91_2 rfl rfl) ?_
                    refine TZ_one 24 (by kernel_rfl) rfl ?_
                    refine TL_store_box sz26 rfl rfl rfl rfl rfl rfl rfl rfl rfl ?_
                    refine TL_nil ?_
                    refine TZ_done (by kernel_rfl) ?_
                    refine T_keepH [0, 1, 6, 8, 9, 10, 11, 13] [11, 15, 19, 315] rfl rfl rfl rfl (by rw [hF]; rfl) ?_
                    exact hj1 (s1.2.1 ++ [(w64 ((w64 (q40 * x115)) + (w64 (q37 * x124))))]) hm
                  · refine ⟨_, rfl, ?_⟩
                    refine TL_buildSlice 583 (es := List.map a_i64 [(w64 ((w64 (q40 * x115)) + (w64 (q37 * x124))))]) el26 z2 rfl rfl rfl rfl rfl rfl rfl rfl rfl ?_
                    refine TL_nil ?_
                    refine TZ_pure 1 (by kernel_rfl) rfl rfl rfl rfl rfl (op_load_one ag26 rfl rfl) ?_
                    refine TZ_one 22 (by kernel_rfl) rfl ?_
                    refine TL_appendT (f := a_i64) (a := s1.2.1) (b := [(w64 ((w64 (q40 * x115)) + (w64 (q37 * x124))))]) el26 z2 rfl rfl rfl rfl rfl rfl rfl (capI_spec hq129) rfl rfl rfl rfl rfl ?_
                    refine TL_nil ?_
                    refine TZ_pure 23 (by kernel_rfl) rfl rfl rfl rfl rfl (op_fieldAddr fa91_2 rfl rfl) ?_
                    refine TZ_one 24 (by kernel_rfl) rfl ?_
                    refine TL_store_box sz26 rfl rfl rfl rfl rfl rfl rfl rfl rfl ?_
                    refine TL_nil ?_
                    refine TZ_done (by kernel_rfl) ?_
                    refine T_keepH [0, 1, 6, 8, 9, 10, 11, 13] [11, 15, 19, 315] rfl rfl rfl rfl (by rw [hF]; rfl) ?_
                    exact hj1 (s1.2.1 ++ [(w64 ((w64 (q40 * x115)) + (w64 (q37 * x124))))]) hm
            · refine ⟨_, rfl, ?_⟩
              refine TL_pure rfl rfl rfl rfl (op_load_one ag26 rfl rfl) ?_
              refine TL_nil ?_
              refine TZ_pure 17 (by kernel_rfl) rfl rfl rfl rfl rfl (op_indexT el26 rfl rfl hx124 rfl) ?_
              refine TZ_each [1, 9, 18] (by kernel_rfl) rfl ?_
              refine ⟨?_, ?_, ?_⟩
              · refine ⟨_, rfl, ?_⟩
                refine TL_pure rfl rfl rfl rfl (op_load_one ag26 rfl rfl) ?_
                refine TL_nil ?_
                refine TZ_each [9, 18] (by kernel_rfl) rfl ?_
                refine ⟨?_, ?_⟩
                · refine ⟨_, rfl, ?_⟩
                  refine TL_pure rfl rfl rfl rfl (op_load_one ag2 rfl rfl) ?_
                  refine TL_nil ?_
                  refine TZ_pure 10 (by kernel_rfl) rfl rfl rfl rfl rfl (op_mulW rfl rfl) ?_
                  refine TZ_one 18 (by kernel_rfl) rfl ?_
                  refine TL_pure rfl rfl rfl rfl (op_load_one ag2 rfl rfl) ?_
                  refine TL_nil ?_
                  refine TZ_pure 19 (by kernel_rfl) rfl rfl rfl rfl rfl (op_mulW rfl rfl) ?_
                  refine TZ_pure 20 (by kernel_rfl) rfl rfl rfl rfl rfl (op_addW rfl rfl) ?_
                  refine TZ_one 21 (by kernel_rfl) rfl ?_
                  refine TL_buildSlice 585 (es := List.map a_i64 [(w64 ((w64 (q40 * x115)) + (w64 (q37 * x124))))]) el26 z2 rfl rfl rfl rfl rfl rfl rfl rfl rfl ?_
                  refine TL_nil ?_
                  refine TZ_one 22 (by kernel_rfl) rfl ?_
                  refine TL_appendT (f := a_i64) (a := s1.2.1) (b := [(w64 ((w64 (q40 * x115)) + (w64 (q37 * x124))))]) el26 z2 rfl rfl rfl rfl rfl rfl rfl (capI_spec hq129) rfl rfl rfl rfl rfl ?_
                  refine TL_nil ?_
                  refine TZ_pure 23 (by kernel_rfl) rfl rfl rfl rfl rfl (op_fieldAddr fa91_2 rfl rfl) ?_
                  refine TZ_one 24 (by kernel_rfl) rfl ?_
                  refine TL_store_box sz26 rfl rfl rfl rfl rfl rfl rfl rfl rfl ?_
                  refine TL_nil ?_
                  refine TZ_done (by kernel_rfl) ?_
                  refine T_keepH [0, 1, 6, 8, 9, 10, 11, 13] [11, 15, 19, 315] rfl rfl rfl rfl (by rw [hF]; rfl) ?_
                  exact hj1 (s1.2.1 ++ [(w64 ((w64 (q40 * x115)) + (w64 (q37 * x124))))]) hm
                · refine ⟨_, rfl, ?_⟩
                  refine TL_pure rfl rfl rfl rfl (op_load_one ag2 rfl rfl) ?_
                  refine TL_nil ?_
                  refine TZ_pure 19 (by kernel_rfl) rfl rfl rfl rfl rfl (op_mulW rfl rfl) ?_
                  refine TZ_one 9 (by kernel_rfl) rfl ?_
                  refine TL_pure rfl rfl rfl rfl (op_load_one ag2 rfl rfl) ?_
                  refine TL_nil ?_
                  refine TZ_pure 10 (by kernel_rfl) rfl rfl rfl rfl rfl (op_mulW rfl rfl) ?_
                  refine TZ_pure 20 (by kernel_rfl) rfl rfl rfl rfl rfl (op_addW rfl rfl) ?_
                  refine TZ_one 21 (by kernel_rfl) rfl ?_
                  refine TL_buildSlice 586 (es := List.map a_i64 [(w64 ((w64 (q40 * x115)) + (w64 (q37 * x124))))]) el26 z2 rfl rfl rfl rfl rfl rfl rfl rfl rfl ?_
                  refine TL_nil ?_
                  refine TZ_one 22 (by kernel_rfl) rfl ?_
                  refine TL_appendT (f := a_i64) (a := s1.2.1) (b := [(w64 ((w64 (q40 * x115)) + (w64 (q37 * x124))))]) el26 z2 rfl rfl rfl rfl rfl rfl rfl (capI_spec hq129) rfl rfl rfl rfl rfl ?_
                  refine TL_nil ?_
                  refine TZ_pure 23 (by kernel_rfl) rfl rfl rfl rfl rfl (op_fieldAddr fa91_2 rfl rfl) ?_
                  refine TZ_one 24 (by kernel_rfl) rfl ?_
                  refine TL_store_box sz26 rfl rfl rfl rfl rfl rfl rfl rfl rfl ?_
                  refine TL_nil ?_
                  refine TZ_done (by kernel_rfl) ?_
                  refine T_keepH [0, 1, 6, 8, 9, 10, 11, 13] [11, 15, 19, 315] rfl rfl rfl rfl (by rw [hF]; rfl) ?_
                  exact hj1 (s1.2.1 ++ [(w64 ((w64 (q40 * x115)) + (w64 (q37 * x124))))]) hm
              · refine ⟨_, rfl, ?_⟩
                refine TL_pure rfl rfl rfl rfl (op_load_one ag2 rfl rfl) ?_
                refine TL_nil ?_
                refine TZ_pure 10 (by kernel_rfl) rfl rfl rfl rfl rfl (op_mulW rfl rfl) ?_
                refine TZ_each [1, 18] (by kernel_rfl) rfl ?_
                refine ⟨?_, ?_⟩
                · refine ⟨_, rfl, ?_⟩
                  refine TL_pure rfl rfl rfl rfl (op_load_one ag26 rfl rfl) ?_
                  refine TL_nil ?_
                  refine TZ_one 18 (by kernel_rfl) rfl ?_
                  refine TL_pure rfl rfl rfl rfl (op_load_one ag2 rfl rfl) ?_
                  refine TL_nil ?_
                  refine TZ_pure 19 (by kernel_rfl) rfl rfl rfl rfl rfl (op_mulW rfl rfl) ?_
                  refine TZ_pure 20 (by kernel_rfl) rfl rfl rfl rfl rfl (op_addW rfl rfl) ?_
                  refine TZ_one 21 (by kernel_rfl) rfl ?_
                  refine TL_buildSlice 587 (es := List.map a_i64 [(w64 ((w64 (q40 * x115)) + (w64 (q37 * x124))))]) el26 z2 rfl rfl rfl rfl rfl rfl rfl rfl rfl ?_
                  refine TL_nil ?_
                  refine TZ_one 22 (by kernel_rfl) rfl ?_
                  refine TL_appendT (f := a_i64) (a := s1.2.1) (b := [(w64 ((w64 (q40 * x115)) + (w64 (q37 * x124))))]) el26 z2 rfl rfl rfl rfl rfl rfl rfl (capI_spec hq129) rfl rfl rfl rfl rfl ?_
                  refine TL_nil ?_
                  refine TZ_pure 23 (by kernel_rfl) rfl rfl rfl rfl rfl (op_fieldAddr fa91_2 rfl rfl) ?_
                  refine TZ_one 24 (by kernel_rfl) rfl ?_
                  refine TL_store_box sz26 rfl rfl rfl rfl rfl rfl rfl rfl rfl ?_
                  refine TL_nil ?_
                  refine TZ_done (by kernel_rfl) ?_
                  refine T_keepH [0, 1, 6, 8, 9, 10, 11, 13] [11, 15, 19, 315] rfl rfl rfl rfl (by rw [hF]; rfl) ?_
                  exact hj1 (s1.2.1 ++ [(w64 ((w64 (q40 * x115)) + (w64 (q37 * x124))))]) hm
                · refine ⟨_, rfl, ?_⟩
                  refine TL_pure rfl rfl rfl rfl (op_load_one ag2 rfl rfl) ?_
                  refine TL_nil ?_
                  refine TZ_pure 19 (by kernel_rfl) rfl rfl rfl rfl rfl (op_mulW rfl rfl) ?_
                  refine TZ_pure 20 (by kernel_rfl) rfl rfl rfl rfl rfl (op_addW rfl rfl) ?_
                  refine TZ_each [1, 21] (by kernel_rfl) rfl ?_
                  refine ⟨?_, ?_⟩
                  · refine ⟨_, rfl, ?_⟩
                    refine TL_pure rfl rfl rfl rfl (op_load_one ag26 rfl rfl) ?_
                    refine TL_nil ?_
                    refine TZ_one 21 (by kernel_rfl) rfl ?_
                    refine TL_buildSlice 589 (es := List.map a_i64 [(w64 ((w64 (q40 * x115)) + (w64 (q37 * x124))))]) el26 z2 rfl rfl rfl rfl rfl rfl rfl rfl rfl ?_
                    refine TL_nil ?_
                    refine TZ_one 22 (by kernel_rfl) rfl ?_
                    refine TL_appendT (f := a_i64) (a := s1.2.1) (b := [(w64 ((w64 (q40 * x115)) + (w64 (q37 * x124))))]) el26 z2 rfl rfl rfl rfl rfl rfl rfl (capI_spec hq129) rfl rfl rfl rfl rfl ?_
                    refine TL_nil ?_
                    refine TZ_pure 23 (by kernel_rfl) rfl rfl rfl rfl rfl (op_fieldAddr fa91_2 rfl rfl) ?_
                    refine TZ_one 24 (by kernel_rfl) rfl ?_
                    refine TL_store_box sz26 rfl rfl rfl rfl rfl rfl rfl rfl rfl ?_
                    refine TL_nil ?_
                    refine TZ_done (by kernel_rfl) ?_
                    refine T_keepH [0, 1, 6, 8, 9, 10, 11, 13] [11, 15, 19, 315] rfl rfl rfl rfl (by rw [hF]; rfl) ?_
                    exact hj1 (s1.2.1 ++ [(w64 ((w64 (q40 * x115)) + (w64 (q37 * x124))))]) hm
                  · refine ⟨_, rfl, ?_⟩
                    refine TL_buildSlice 588 (es := List.map a_i64 [(w64 ((w64 (q40 * x115)) + (w64 (q37 * x124))))]) el26 z2 rfl rfl rfl rfl rfl rfl rfl rfl rfl ?_
                    refine TL_nil ?_
                    refine TZ_pure 1 (by kernel_rfl) rfl rfl rfl rfl rfl (op_load_one ag26 rfl rfl) ?_
                    refine TZ_one 22 (by kernel_rfl) rfl ?_
                    refine TL_appendT (f := a_i64) (a := s1.2.1) (b := [(w64 ((w64 (q40 * x115)) + (w64 (q37 * x124))))]) el26 z2 rfl rfl rfl rfl rfl rfl rfl (capI_spec hq129) rfl rfl rfl rfl rfl ?_
                    refine TL_nil ?_
                    refine TZ_pure 23 (by kernel_rfl) rfl rfl rfl rfl rfl (op_fieldAddr fa91_2 rfl rfl) ?_
                    refine TZ_one 24 (by kernel_rfl) rfl ?_
                    refine TL_store_box sz26 rfl rfl rfl rfl rfl rfl rfl rfl rfl ?_
                    refine TL_nil ?_
                    refine TZ_done (by kernel_rfl) ?_
                    refine T_keepH [0, 1, 6, 8, 9, 10, 11, 13] [11, 15, 19, 315] rfl rfl rfl rfl (by rw [hF]; rfl) ?_
                    exact hj1 (s1.2.1 ++ [(w64 ((w64 (q40 * x115)) + (w64 (q37 * x124))))]) hm
              · refine ⟨_, rfl, ?_⟩
                refine TL_pure rfl rfl rfl rfl (op_load_one ag2 rfl rfl) ?_
                refine TL_nil ?_
                refine TZ_pure 19 (by kernel_rfl) rfl rfl rfl rfl rfl (op_mulW rfl rfl) ?_
                refine TZ_each [1, 9] (by kernel_rfl) rfl ?_
                refine ⟨?_, ?_⟩
                · refine ⟨_, rfl, ?_⟩
                  refine TL_pure rfl rfl rfl rfl (op_load_one ag26 rfl rfl) ?_
                  refine TL_nil ?_
                  refine TZ_one 9 (by kernel_rfl) rfl ?_
                  refine TL_pure rfl rfl rfl rfl (op_load_one ag2 rfl rfl) ?_
                  refine TL_nil ?_
                  refine TZ_pure 10 (by kernel_rfl) rfl rfl rfl rfl rfl (op_mulW rfl rfl) ?_
                  refine TZ_pure 20 (by kernel_rfl) rfl rfl rfl rfl rfl (op_addW rfl rfl) ?_
                  refine TZ_one 21 (by kernel_rfl) rfl ?_
                  refine TL_buildSlice 590 (es := List.map a_i64 [(w64 ((w64 (q40 * x115)) + (w64 (q37 * x124))))]) el26 z2 rfl rfl rfl rfl rfl rfl rfl rfl rfl ?_
                  refine TL_nil ?_
                  refine TZ_one 22 (by kernel_rfl) rfl ?_
                  refine TL_appendT (f := a_i64) (a := s1.2.1) (b := [(w64 ((w64 (q40 * x115)) + (w64 (q37 * x124))))]) el26 z2 rfl rfl rfl rfl rfl rfl rfl (capI_spec hq129) rfl rfl rfl rfl rfl ?_
                  refine TL_nil ?_
                  refine TZ_pure 23 (by kernel_rfl) rfl rfl rfl rfl rfl (op_fieldAddr fa91_2 rfl rfl) ?_
                  refine TZ_one 24 (by kernel_rfl) rfl ?_
                  refine TL_store_box sz26 rfl rfl rfl rfl rfl rfl rfl rfl rfl ?_
                  refine TL_nil ?_
                  refine TZ_done (by kernel_rfl) ?_
                  refine T_keepH [0, 1, 6, 8, 9, 10, 11, 13] [11, 15, 19, 315] rfl rfl rfl rfl (by rw [hF]; rfl) ?_
                  exact hj1 (s1.2.1 ++ [(w64 ((w64 (q40 * x115)) + (w64 (q37 * x124))))]) hm
                · refine ⟨_, rfl, ?_⟩
                  refine TL_pure rfl rfl rfl rfl (op_load_one ag2 rfl rfl) ?_
                  refine TL_nil ?_
                  refine TZ_pure 10 (by kernel_rfl) rfl rfl rfl rfl rfl (op_mulW rfl rfl) ?_
                  refine TZ_pure 20 (by kernel_rfl) rfl rfl rfl rfl rfl (op_addW rfl rfl) ?_
                  refine TZ_each [1, 21] (by kernel_rfl) rfl ?_
                  refine ⟨?_, ?_⟩
                  · refine ⟨_, rfl, ?_⟩
                    refine TL_pure rfl rfl rfl rfl (op_load_one ag26 rfl rfl) ?_
                    refine TL_nil ?_
                    refine TZ_one 21 (by kernel_rfl) rfl ?_
                    refine TL_buildSlice 592 (es := List.map a_i64 [(w64 ((w64 (q40 * x115)) + (w64 (q37 * x124))))]) el26 z2 rfl rfl rfl rfl rfl rfl rfl rfl rfl ?_
                    refine TL_nil ?_
                    refine TZ_one 22 (by kernel_rfl) rfl ?_
                    refine TL_appendT (f := a_i64) (a := s1.2.1) (b := [(w64 ((w64 (q40 * x115)) + (w64 (q37 * x124))))]) el26 z2 rfl rfl rfl rfl rfl rfl rfl (capI_spec hq129) rfl rfl rfl rfl rfl ?_
                    refine TL_nil ?_
                    refine TZ_pure 23 (by kernel_rfl) rfl rfl rfl rfl rfl (op_fieldAddr fa91_2 rfl rfl) ?_
                    refine TZ_one 24 (by kernel_rfl) rfl ?_
                    refine TL_store_box sz26 rfl rfl rfl rfl rfl rfl rfl rfl rfl ?_
                    refine TL_nil ?_
                    refine TZ_done (by kernel_rfl) ?_
                    refine T_keepH [0, 1, 6, 8, 9, 10, 11, 13] [11, 15, 19, 315] rfl rfl rfl rfl (by rw [hF]; rfl) ?_
                    exact hj1 (s1.2.1 ++ [(w64 ((w64 (q40 * x115)) + (w64 (q37 * x124))))]) hm
                  · refine ⟨_, rfl, ?_⟩
                    refine TL_buildSlice 591 (es := List.map a_i64 [(w64 ((w64 (q40 * x115)) + (w64 (q37 * x124))))]) el26 z2 rfl rfl rfl rfl rfl rfl rfl rfl rfl ?_
                    refine TL_nil ?_
                    refine TZ_pure 1 (by kernel_rfl) rfl rfl rfl rfl rfl (op_load_one ag26 rfl rfl) ?_
                    refine TZ_one 22 (by kernel_rfl) rfl ?_
                    refine TL_appendT (f := a_i64) (a := s1.2.1) (b := [(w64 ((w64 (q40 * x115)) + (w64 (q37 * x124))))]) el26 z2 rfl rfl rfl rfl rfl rfl rfl (capI_spec hq129) rfl rfl rfl rfl rfl ?_
                    refine TL_nil ?_
                    refine TZ_pure 23 (by kernel_rfl) rfl rfl rfl rfl rfl (op_fieldAddr fa91_2 rfl rfl) ?_
                    refine TZ_one 24 (by kernel_rfl) rfl ?_
                    refine TL_store_box sz26 rfl rfl rfl rfl rfl rfl rfl rfl rfl ?_
                    refine TL_nil ?_
                    refine TZ_done (by kernel_rfl) ?_
                    refine T_keepH [0, 1, 6, 8, 9, 10, 11, 13] [11, 15, 19, 315] rfl rfl rfl rfl (by rw [hF]; rfl) ?_
                    exact hj1 (s1.2.1 ++ [(w64 ((w64 (q40 * x115)) + (w64 (q37 * x124))))]) hm
          · refine ⟨_, rfl, ?_⟩
            refine TL_pure rfl rfl rfl rfl (op_load_one ag26 rfl rfl) ?_
            refine TL_nil ?_
            refine TZ_pure 17 (by kernel_rfl) rfl rfl rfl rfl rfl (op_indexT el26 rfl rfl hx124 rfl) ?_
            refine TZ_each [1, 6, 18] (by kernel_rfl) rfl ?_
            refine ⟨?_, ?_, ?_⟩
            · refine ⟨_, rfl, ?_⟩
              refine TL_pure rfl rfl rfl rfl (op_load_one ag26 rfl rfl) ?_
              refine TL_nil ?_
              refine TZ_each [6, 18] (by kernel_rfl) rfl ?_
              refine ⟨?_, ?_⟩
              · refine ⟨_, rfl, ?_⟩
                refine TL_pure rfl rfl rfl rfl (op_load_one ag26 rfl rfl) ?_
                refine TL_nil ?_
                refine TZ_pure 8 (by kernel_rfl) rfl rfl rfl rfl rfl (op_indexT el26 rfl rfl hx115 rfl) ?_
                refine TZ_each [9, 18] (by kernel_rfl) rfl ?_
                refine ⟨?_, ?_⟩
                · refine ⟨_, rfl, ?_⟩
                  refine TL_pure rfl rfl rfl rfl (op_load_one ag2 rfl rfl) ?_
                  refine TL_nil ?_
                  refine TZ_pure 10 (by kernel_rfl) rfl rfl rfl rfl rfl (op_mulW rfl rfl) ?_
                  refine TZ_one 18 (by kernel_rfl) rfl ?_
                  refine TL_pure rfl rfl rfl rfl (op_load_one ag2 rfl rfl) ?_
                  refine TL_nil ?_
                  refine TZ_pure 19 (by kernel_rfl) rfl rfl rfl rfl rfl (op_mulW rfl rfl) ?_
                  refine TZ_pure 20 (by kernel_rfl) rfl rfl rfl rfl rfl (op_addW rfl rfl) ?_
                  refine TZ_one 21 (by kernel_rfl) rfl ?_
                  refine TL_buildSlice 593 (es := List.map a_i64 [(w64 ((w64 (q40 * x115)) + (w64 (q37 * x124))))]) el26 z2 rfl rfl rfl rfl rfl rfl rfl rfl rfl ?_
                  refine TL_nil ?_
                  refine TZ_one 22 (by kernel_rfl) rfl ?_
                  refine TL_appendT (f := a_i64) (a := s1.2.1) (b := [(w64 ((w64 (q40 * x115)) + (w64 (q37 * x124))))]) el26 z2 rfl rfl rfl rfl rfl rfl rfl (capI_spec hq129) rfl rfl rfl rfl rfl ?_
                  refine TL_nil ?_
                  refine TZ_pure 23 (by kernel_rfl) rfl rfl rfl rfl rfl (op_fieldAddr fa91_2 rfl rfl) ?_
                  refine TZ_one 24 (by kernel_rfl) rfl ?_
                  refine TL_store_box sz26 rfl rfl rfl rfl rfl rfl rfl rfl rfl ?_
                  refine TL_nil ?_
                  refine TZ_done (by kernel_rfl) ?_
                  refine T_keepH [0, 1, 6, 8, 9, 10, 11, 13] [11, 15, 19, 315] rfl rfl rfl rfl (by rw [hF]; rfl) ?_
                  exact hj1 (s1.2.1 ++ [(w64 ((w64 (q40 * x115)) + (w64 (q37 * x124))))]) hm
                · refine ⟨_, rfl, ?_⟩
                  refine TL_pure rfl rfl rfl rfl (op_load_one ag2 rfl rfl) ?_
                  refine TL_nil ?_
                  refine TZ_pure 19 (by kernel_rfl) rfl rfl rfl rfl rfl (op_mulW rfl rfl) ?_
                  refine TZ_one 9 (by kernel_rfl) rfl ?_
                  refine TL_pure rfl rfl rfl rfl (op_load_one ag2 rfl rfl) ?_
                  refine TL_nil ?_
                  refine TZ_pure 10 (by kernel_rfl) rfl rfl rfl rfl rfl (op_mulW rfl rfl) ?_
                  refine TZ_pure 20 (by kernel_rfl) rfl rfl rfl rfl rfl (op_addW rfl rfl) ?_
                  refine TZ_one 21 (by kernel_rfl) rfl ?_
                  refine TL_buildSlice 594 (es := List.map a_i64 [(w64 ((w64 (q40 * x115)) + (w64 (q37 * x124))))]) el26 z2 rfl rfl rfl rfl rfl rfl rfl rfl rfl ?_
                  refine TL_nil ?_
                  refine TZ_one 22 (by kernel_rfl) rfl ?_
                  refine TL_appendT (f := a_i64) (a := s1.2.1) (b := [(w64 ((w64 (q40 * x115)) + (w64 (q37 * x124))))]) el26 z2 rfl rfl rfl rfl rfl rfl rfl (capI_spec hq129) rfl rfl rfl rfl rfl ?_
                  refine TL_nil ?_
                  refine TZ_pure 23 (by kernel_rfl) rfl rfl rfl rfl rfl (op_fieldAddr fa91_2 rfl rfl) ?_
                  refine TZ_one 24 (by kernel_rfl) rfl ?_
                  refine TL_store_box sz26 rfl rfl rfl rfl rfl rfl rfl rfl rfl ?_
                  refine TL_nil ?_
                  refine TZ_done (by kernel_rfl) ?_
                  refine T_keepH [0, 1, 6, 8, 9, 10, 11, 13] [11, 15, 19, 315] rfl rfl rfl rfl (by rw [hF]; rfl) ?_
                  exact hj1 (s1.2.1 ++ [(w64 ((w64 (q40 * x115)) + (w64 (q37 * x124))))]) hm
              · refine ⟨_, rfl, ?_⟩
                refine TL_pure rfl rfl rfl rfl (op_load_one ag2 rfl rfl) ?_
                refine TL_nil ?_
                refine TZ_pure 19 (by kernel_rfl) rfl rfl rfl rfl rfl (op_mulW rfl rfl) ?_
                refine TZ_one 6 (by kernel_rfl) rfl ?_
                refine TL_pure rfl rfl rfl rfl (op_load_one ag26 rfl rfl) ?_
                refine TL_nil ?_
                refine TZ_pure 8 (by kernel_rfl) rfl rfl rfl rfl rfl (op_indexT el26 rfl rfl hx115 rfl) ?_
                refine TZ_one 9 (by kernel_rfl) rfl ?_
                refine TL_pure rfl rfl rfl rfl (op_load_one ag2 rfl rfl) ?_
                refine TL_nil ?_
                refine TZ_pure 10 (by kernel_rfl) rfl rfl rfl rfl rfl (op_mulW rfl rfl) ?_
                refine TZ_pure 20 (by kernel_rfl) rfl rfl rfl rfl rfl (op_addW rfl rfl) ?_
                refine TZ_one 21 (by kernel_rfl) rfl ?_
                refine TL_buildSlice 595 (es := List.map a_i64 [(w64 ((w64 (q40 * x115)) + (w64 (q37 * x124))))]) el26 z2 rfl rfl rfl rfl rfl rfl rfl rfl rfl ?_
                refine TL_nil ?_
                refine TZ_one 22 (by kernel_rfl) rfl ?_
                refine TL_appendT (f := a_i64) (a := s1.2.1) (b := [(w64 ((w64 (q40 * x115)) + (w64 (q37 * x124))))]) el26 z2 rfl rfl rfl rfl rfl rfl rfl (capI_spec hq129) rfl rfl rfl rfl rfl ?_
                refine TL_nil ?_
                refine TZ_pure 23 (by kernel_rfl) rfl rfl rfl rfl rfl (op_fieldAddr fa91_2 rfl rfl) ?_
                refine TZ_one 24 (by kernel_rfl) rfl ?_
                refine TL_store_box sz26 rfl rfl rfl rfl rfl rfl rfl rfl rfl ?_
                refine TL_nil ?_
                refine TZ_done (by kernel_rfl) ?_
                refine T_keepH [0, 1, 6, 8, 9, 10, 11, 13] [11, 15, 19, 315] rfl rfl rfl rfl (by rw [hF]; rfl) ?_
                exact hj1 (s1.2.1 ++ [(w64 ((w64 (q40 * x115)) + (w64 (q37 * x124))))]) hm
            · refine ⟨_, rfl, ?_⟩
              refine TL_pure rfl rfl rfl rfl (op_load_one ag26 rfl rfl) ?_
              refine TL_nil ?_
              refine TZ_pure 8 (by kernel_rfl) rfl rfl rfl rfl rfl (op_indexT el26 rfl rfl hx115 rfl) ?_
              refine TZ_each [1, 9, 18] (by kernel_rfl) rfl ?_
              refine ⟨?_, ?_, ?_⟩
              · refine ⟨_, rfl, ?_⟩
                refine TL_pure rfl rfl rfl rfl (op_load_one ag26 rfl rfl) ?_
                refine TL_nil ?_
                refine TZ_each [9, 18] (by kernel_rfl) rfl ?_
                refine ⟨?_, ?_⟩
                · refine ⟨_, rfl, ?_⟩
                  refine TL_pure rfl rfl rfl rfl (op_load_one ag2 rfl rfl) ?_
                  refine TL_nil ?_
                  refine TZ_pure 10 (by kernel_rfl) rfl rfl rfl rfl rfl (op_mulW rfl rfl) ?_
                  refine TZ_one 18 (by kernel_rfl) rfl ?_
                  refine TL_pure rfl rfl rfl rfl (op_load_one ag2 rfl rfl) ?_
                  refine TL_nil ?_
                  refine TZ_pure 19 (by kernel_rfl) rfl rfl rfl rfl rfl (op_mulW rfl rfl) ?_
                  refine TZ_pure 20 (by kernel_rfl) rfl rfl rfl rfl rfl (op_addW rfl rfl) ?_
                  refine TZ_one 21 (by kernel_rfl) rfl ?_
                  refine TL_buildSlice 596 (es := List.map a_i64 [(w64 ((w64 (q40 * x115)) + (w64 (q37 * x124))))]) el26 z2 rfl rfl rfl rfl rfl rfl rfl rfl rfl ?_
                  refine TL_nil ?_
                  refine TZ_one 22 (by kernel_rfl) rfl ?_
                  refine TL_appendT (f := a_i64) (a := s1.2.1) (b := [(w64 ((w64 (q40 * x115)) + (w64 (q37 * x124))))]) el26 z2 rfl rfl rfl rfl rfl rfl rfl (capI_spec hq129) rfl rfl rfl rfl rfl ?_
                  refine TL_nil ?_
                  refine TZ_pure 23 (by kernel_rfl) rfl rfl rfl rfl rfl (op_fieldAddr fa91_2 rfl rfl) ?_
                  refine TZ_one 24 (by kernel_rfl) rfl ?_
                  refine TL_store_box sz26 rfl rfl rfl rfl rfl rfl rfl rfl rfl ?_
                  refine TL_nil ?_
                  refine TZ_done (by kernel_rfl) ?_
                  refine T_keepH [0, 1, 6, 8, 9, 10, 11, 13] [11, 15, 19, 315] rfl rfl rfl rfl (by rw [hF]; rfl) ?_
                  exact hj1 (s1.2.1 ++ [(w64 ((w64 (q40 * x115)) + (w64 (q37 * x124))))]) hm
                · refine ⟨_, rfl, ?_⟩
                  refine TL_pure rfl rfl rfl rfl (op_load_one ag2 rfl rfl) ?_
                  refine TL_nil ?_
                  refine TZ_pure 19 (by kernel_rfl) rfl rfl rfl rfl rfl (op_mulW rfl rfl) ?_
                  refine TZ_one 9 (by kernel_rfl) rfl ?_
                  refine TL_pure rfl rfl rfl rfl (op_load_one ag2 rfl rfl) ?_
                  refine TL_nil ?_
                  refine TZ_pure 10 (by kernel_rfl) rfl rfl rfl rfl rfl (op_mulW rfl rfl) ?_
                  refine TZ_pure 20 (by kernel_rfl) rfl rfl rfl rfl rfl (op_addW rfl rfl) ?_
                  refine TZ_one 21 (by kernel_rfl) rfl ?_
                  refine TL_buildSlice 597 (es := List.map a_i64 [(w64 ((w64 (q40 * x115)) + (w64 (q37 * x124))))]) el26 z2 rfl rfl rfl rfl rfl rfl rfl rfl rfl ?_
                  refine TL_nil ?_
                  refine TZ_one 22 (by kernel_rfl) rfl ?_
                  refine TL_appendT (f := a_i64) (a := s1.2.1) (b := [(w64 ((w64 (q40 * x115)) + (w64 (q37 * x124))))]) el26 z2 rfl rfl rfl rfl rfl rfl rfl (capI_spec hq129) rfl rfl rfl rfl rfl ?_
                  refine TL_nil ?_
                  refine TZ_pure 23 (by kernel_rfl) rfl rfl rfl rfl rfl (op_fieldAddr fa91_2 rfl rfl) ?_
                  refine TZ_one 24 (by kernel_rfl) rfl ?_
                  refine TL_store_box sz26 rfl rfl rfl rfl rfl rfl rfl rfl rfl ?_
                  refine TL_nil ?_
                  refine TZ_done (by kernel_rfl) ?_
                  refine T_keepH [0, 1, 6, 8, 9, 10, 11, 13] [11, 15, 19, 315] rfl rfl rfl rfl (by rw [hF]; rfl) ?_
                  exact hj1 (s1.2.1 ++ [(w64 ((w64 (q40 * x115)) + (w64 (q37 * x124))))]) hm
              · refine ⟨_, rfl, ?_⟩
                refine TL_pure rfl rfl rfl rfl (op_load_one ag2 rfl rfl) ?_
                refine TL_nil ?_
                refine TZ_pure 10 (by kernel_rfl) rfl rfl rfl rfl rfl (op_mulW rfl rfl) ?_
                refine TZ_each [1, 18] (by kernel_rfl) rfl ?_
                refine ⟨?_, ?_⟩
                · refine ⟨_, rfl, ?_⟩
                  refine TL_pure rfl rfl rfl rfl (op_load_one ag26 rfl rfl) ?_
                  refine TL_nil ?_
                  refine TZ_one 18 (by kernel_rfl) rfl ?_
                  refine TL_pure rfl rfl rfl rfl (op_load_one ag2 rfl rfl) ?_
                  refine TL_nil ?_
                  refine TZ_pure 19 (by kernel_rfl) rfl rfl rfl rfl rfl (op_mulW rfl rfl) ?_
                  refine TZ_pure 20 (by kernel_rfl) rfl rfl rfl rfl rfl (op_addW rfl rfl) ?_
                  refine TZ_one 21 (by kernel_rfl) rfl ?_
                  refine TL_buildSlice 598 (es := List.map a_i64 [(w64 ((w64 (q40 * x115)) + (w64 (q37 * x124))))]) el26 z2 rfl rfl rfl rfl rfl rfl rfl rfl rfl ?_
                  refine TL_nil ?_
                  refine TZ_one 22 (by kernel_rfl) rfl ?_
                  refine TL_appendT (f := a_i64) (a := s1.2.1) (b := [(w64 ((w64 (q40 * x115)) + (w64 (q37 * x124))))]) el26 z2 rfl rfl rfl rfl rfl rfl rfl (capI_spec hq129) rfl rfl rfl rfl rfl ?_
                  refine TL_nil ?_
                  refine TZ_pure 23 (by kernel_rfl) rfl rfl rfl rfl rfl (op_fieldAddr fa91_2 rfl rfl) ?_
                  refine TZ_one 24 (by kernel_rfl) rfl ?_
                  refine TL_store_box sz26 rfl rfl rfl rfl rfl rfl rfl rfl rfl ?_
                  refine TL_nil ?_
                  refine TZ_done (by kernel_rfl) ?_
                  refine T_keepH [0, 1, 6, 8, 9, 10, 11, 13] [11, 15, 19, 315] rfl rfl rfl rfl (by rw [hF]; rfl) ?_
                  exact hj1 (s1.2.1 ++ [(w64 ((w64 (q40 * x115)) + (w64 (q37 * x124))))]) hm
                · refine ⟨_, rfl, ?_⟩
                  refine TL_pure rfl rfl rfl rfl (op_load_one ag2 rfl rfl) ?_
                  refine TL_nil ?_
                  refine TZ_pure 19 (by kernel_rfl) rfl rfl rfl rfl rfl (op_mulW rfl rfl) ?_
                  refine TZ_pure 20 (by kernel_rfl) rfl rfl rfl rfl rfl (op_addW rfl rfl) ?_
                  refine TZ_each [1, 21] (by kernel_rfl) rfl ?_
                  refine ⟨?_, ?_⟩
                  · refine ⟨_, rfl, ?_⟩
                    refine TL_pure rfl rfl rfl rfl (op_load_one ag26 rfl rfl) ?_
                    refine TL_nil ?_
                    refine TZ_one 21 (by kernel_rfl) rfl ?_
                    refine TL_buildSlice 600 (es := List.map a_i64 [(w64 ((w64 (q40 * x115)) + (w64 (q37 * x124))))]) el26 z2 rfl rfl rfl rfl rfl rfl rfl rfl rfl ?_
                    refine TL_nil ?_
                    refine TZ_one 22 (by kernel_rfl) rfl ?_
                    refine TL_appendT (f := a_i64) (a := s1.2.1) (b := [(w64 ((w64 (q40 * x115)) + (w64 (q37 * x124))))]) el26 z2 rfl rfl rfl rfl rfl rfl rfl (capI_spec hq129) rfl rfl rfl rfl rfl ?_
                    refine TL_nil ?_
                    refine TZ_pure 23 (by kernel_rfl) rfl rfl rfl rfl rfl (op_fieldAddr fa91_2 rfl rfl) ?_
                    refine TZ_one 24 (by kernel_rfl) rfl ?_
                    refine TL_store_box sz26 rfl rfl rfl rfl rfl rfl rfl rfl rfl ?_
                    refine TL_nil ?_
                    refine TZ_done (by kernel_rfl) ?_
                    refine T_keepH [0, 1, 6, 8, 9, 10, 11, 13] [11, 15, 19, 315] rfl rfl rfl rfl (by rw [hF]; rfl) ?_
                    exact hj1 (s1.2.1 ++ [(w64 ((w64 (q40 * x115)) + (w64 (q37 * x124))))]) hm
                  · refine ⟨_, rfl, ?_⟩
                    refine TL_buildSlice 599 (es := List.map a_i64 [(w64 ((w64 (q40 * x115)) + (w64 (q37 * x124))))]) el26 z2 rfl rfl rfl rfl rfl rfl rfl rfl rfl ?_
                    refine TL_nil ?_
                    refine TZ_pure 1 (by kernel_rfl) rfl rfl rfl rfl rfl (op_load_one ag26 rfl rfl) ?_
                    refine TZ_one 22 (by kernel_rfl) rfl ?_
                    refine TL_appendT (f := a_i64) (a := s1.2.1) (b := [(w64 ((w64 (q40 * x115)) + (w64 (q37 * x124))))]) el26 z2 rfl rfl rfl rfl rfl rfl rfl (capI_spec hq129) rfl rfl rfl rfl rfl ?_
                    refine TL_nil ?_
                    refine TZ_pure 23 (by kernel_rfl) rfl rfl rfl rfl rfl (op_fieldAddr fa91_2 rfl rfl) ?_
                    refine TZ_one 24 (by kernel_rfl) rfl ?_
                    refine TL_store_box sz26 rfl rfl rfl rfl rfl rfl rfl rfl rfl ?_
                    refine TL_nil ?_
                    refine TZ_done (by kernel_rfl) ?_
                    refine T_keepH [0, 1, 6, 8, 9, 10, 11, 13] [11, 15, 19, 315] rfl rfl rfl rfl (by rw [hF]; rfl) ?_
                    exact hj1 (s1.2.1 ++ [(w64 ((w64 (q40 * x115)) + (w64 (q37 * x124))))]) hm
              · refine ⟨_, rfl, ?_⟩
                refine TL_pure rfl rfl rfl rfl (op_load_one ag2 rfl rfl) ?_
                refine TL_nil ?_
                refine TZ_pure 19 (by kernel_rfl) rfl rfl rfl rfl rfl (op_mulW rfl rfl) ?_
                refine TZ_each [1, 9] (by kernel_rfl) rfl ?_
                refine ⟨?_, ?_⟩
                · refine ⟨_, rfl, ?_⟩
                  refine TL_pure rfl rfl rfl rfl (op_load_one ag26 rfl rfl) ?_
                  refine TL_nil ?_
                  refine TZ_one 9 (by kernel_rfl) rfl ?_
                  refine TL_pure rfl rfl rfl rfl (op_load_one ag2 rfl rfl) ?_
                  refine TL_nil ?_
                  refine TZ_pure 10 (by kernel_rfl) rfl rfl rfl rfl rfl (op_mulW rfl rfl) ?_
                  refine TZ_pure 20 (by kernel_rfl) rfl rfl rfl rfl rfl (op_addW rfl rfl) ?_
                  refine TZ_one 21 (by kernel_rfl) rfl ?_
                  refine TL_buildSlice 601 (es := List.map a_i64 [(w64 ((w64 (q40 * x115)) + (w64 (q37 * x124))))]) el26 z2 rfl rfl rfl rfl rfl rfl rfl rfl rfl ?_
                  refine TL_nil ?_
                  refine TZ_one 22 (by kernel_rfl) rfl ?_
                  refine TL_appendT (f := a_i64) (a := s1.2.1) (b := [(w64 ((w64 (q40 * x115)) + (w64 (q37 * x124))))]) el26 z2 rfl rfl rfl rfl rfl rfl rfl (capI_spec hq129) rfl rfl rfl rfl rfl ?_
                  refine TL_nil ?_
                  refine TZ_pure 23 (by kernel_rfl) rfl rfl rfl rfl rfl (op_fieldAddr fa91_2 rfl rfl) ?_
                  refine TZ_one 24 (by kernel_rfl) rfl ?_
                  refine TL_store_box sz26 rfl rfl rfl rfl rfl rfl rfl rfl rfl ?_
                  refine TL_nil ?_
                  refine TZ_done (by kernel_rfl) ?_
                  refine T_keepH [0, 1, 6, 8, 9, 10, 11, 13] [11, 15, 19, 315] rfl rfl rfl rfl (by rw [hF]; rfl) ?_
                  exact hj1 (s1.2.1 ++ [(w64 ((w64 (q40 * x115)) + (w64 (q37 * x124))))]) hm
                · refine ⟨_, rfl, ?_⟩
                  refine TL_pure rfl rfl rfl rfl (op_load_one ag2 rfl rfl) ?_
                  refine TL_nil ?_
                  refine TZ_pure 10 (by kernel_rfl) rfl rfl rfl rfl rfl (op_mulW rfl rfl) ?_
                  refine TZ_pure 20 (by kernel_rfl) rfl rfl rfl rfl rfl (op_addW rfl rfl) ?_
                  refine TZ_each [1, 21] (by kernel_rfl) rfl ?_
                  refine ⟨?_, ?_⟩
                  · refine ⟨_, rfl, ?_⟩
                    refine TL_pure rfl rfl rfl rfl (op_load_one ag26 rfl rfl) ?_
                    refine TL_nil ?_
                    refine TZ_one 21 (by kernel_rfl) rfl ?_
                    refine TL_buildSlice 603 (es := List.map a_i64 [(w64 ((w64 (q40 * x115)) + (w64 (q37 * x124))))]) el26 z2 rfl rfl rfl rfl rfl rfl rfl rfl rfl ?_
                    refine TL_nil ?_
                    refine TZ_one 22 (by kernel_rfl) rfl ?_
                    refine TL_appendT (f := a_i64) (a := s1.2.1) (b := [(w64 ((w64 (q40 * x115)) + (w64 (q37 * x124))))]) el26 z2 rfl rfl rfl rfl rfl rfl rfl (capI_spec hq129) rfl rfl rfl rfl rfl ?_
                    refine TL_nil ?_
                    refine TZ_pure 23 (by kernel_rfl) rfl rfl rfl rfl rfl (op_fieldAddr fa91_2 rfl rfl) ?_
                    refine TZ_one 24 (by kernel_rfl) rfl ?_
                    refine TL_store_box sz26 rfl rfl rfl rfl rfl rfl rfl rfl rfl ?_
                    refine TL_nil ?_
                    refine TZ_done (by kernel_rfl) ?_
                    refine T_keepH [0, 1, 6, 8, 9, 10, 11, 13] [11, 15, 19, 315] rfl rfl rfl rfl (by rw [hF]; rfl) ?_
                    exact hj1 (s1.2.1 ++ [(w64 ((w64 (q40 * x115)) + (w64 (q37 * x124))))]) hm
                  · refine ⟨_, rfl, ?_⟩
                    refine TL_buildSlice 602 (es := List.map a_i64 [(w64 ((w64 (q40 * x115)) + (w64 (q37 * x124))))]) el26 z2 rfl rfl rfl rfl rfl rfl rfl rfl rfl ?_
                    refine TL_nil ?_
                    refine TZ_pure 1 (by kernel_rfl) rfl rfl rfl rfl rfl (op_load_one ag26 rfl rfl) ?_
                    refine TZ_one 22 (by kernel_rfl) rfl ?_
                    refine TL_appendT (f := a_i64) (a := s1.2.1) (b := [(w64 ((w64 (q40 * x115)) + (w64 (q37 * x124))))]) el26 z2 rfl rfl rfl rfl rfl rfl rfl (capI_spec hq129) rfl rfl rfl rfl rfl ?_
                    refine TL_nil ?_
                    refine TZ_pure 23 (by kernel_rfl) rfl rfl rfl rfl rfl (op_fieldAddr fa91_2 rfl rfl) ?_
                    refine TZ_one 24 (by kernel_rfl) rfl ?_
                    refine TL_store_box sz26 rfl rfl rfl rfl rfl rfl rfl rfl rfl ?_
                    refine TL_nil ?_
                    refine TZ_done (by kernel_rfl) ?_
                    refine T_keepH [0, 1, 6, 8, 9, 10, 11, 13] [11, 15, 19, 315] rfl rfl rfl rfl (by rw [hF]; rfl) ?_
                    exact hj1 (s1.2.1 ++ [(w64 ((w64 (q40 * x115)) + (w64 (q37 * x124))))]) hm
            · refine ⟨_, rfl, ?_⟩
              refine TL_pure rfl rfl rfl rfl (op_load_one ag2 rfl rfl) ?_
              refine TL_nil ?_
              refine TZ_pure 19 (by kernel_rfl) rfl rfl rfl rfl rfl (op_mulW rfl rfl) ?_
              refine TZ_each [1, 6] (by kernel_rfl) rfl ?_
              refine ⟨?_, ?_⟩
              · refine ⟨_, rfl, ?_⟩
                refine TL_pure rfl rfl rfl rfl (op_load_one ag26 rfl rfl) ?_
                refine TL_nil ?_
                refine TZ_one 6 (by kernel_rfl) rfl ?_
                refine TL_pure rfl rfl rfl rfl (op_load_one ag26 rfl rfl) ?_
                refine TL_nil ?_
                refine TZ_pure 8 (by kernel_rfl) rfl rfl rfl rfl rfl (op_indexT el26 rfl rfl hx115 rfl) ?_
                refine TZ_one 9 (by kernel_rfl) rfl ?_
                refine TL_pure rfl rfl rfl rfl (op_load_one ag2 rfl rfl) ?_
                refine TL_nil ?_
                refine TZ_pure 10 (by kernel_rfl) rfl rfl rfl rfl rfl (op_mulW rfl rfl) ?_
                refine TZ_pure 20 (by kernel_rfl) rfl rfl rfl rfl rfl (op_addW rfl rfl) ?_
                refine TZ_one 21 (by kernel_rfl) rfl ?_
                refine TL_buildSlice 604 (es := List.map a_i64 [(w64 ((w64 (q40 * x115)) + (w64 (q37 * x124))))]) el26 z2 rfl rfl rfl rfl rfl rfl rfl rfl rfl ?_
                refine TL_nil ?_
                refine TZ_one 22 (by kernel_rfl) rfl ?_
                refine TL_appendT (f := a_i64) (a := s1.2.1) (b := [(w64 ((w64 (q40 * x115)) + (w64 (q37 * x124))))]) el26 z2 rfl rfl rfl rfl rfl rfl rfl (capI_spec hq129) rfl rfl rfl rfl rfl ?_
                refine TL_nil ?_
                refine TZ_pure 23 (by kernel_rfl) rfl rfl rfl rfl rfl (op_fieldAddr fa91_2 rfl rfl) ?_
                refine TZ_one 24 (by kernel_rfl) rfl ?_
                refine TL_store_box sz26 rfl rfl rfl rfl rfl rfl rfl rfl rfl ?_
                refine TL_nil ?_
                refine TZ_done (by kernel_rfl) ?_
                refine T_keepH [0, 1, 6, 8, 9, 10, 11, 13] [11, 15, 19, 315] rfl rfl rfl rfl (by rw [hF]; rfl) ?_
                exact hj1 (s1.2.1 ++ [(w64 ((w64 (q40 * x115)) + (w64 (q37 * x124))))]) hm
              · refine ⟨_, rfl, ?_⟩
                refine TL_pure rfl rfl rfl rfl (op_load_one ag26 rfl rfl) ?_
                refine TL_nil ?_
                refine TZ_pure 8 (by kernel_rfl) rfl rfl rfl rfl rfl (op_indexT el26 rfl rfl hx115 rfl) ?_
                refine TZ_each [1, 9] (by kernel_rfl) rfl ?_
                refine ⟨?_, ?_⟩
                · refine ⟨_, rfl, ?_⟩
                  refine TL_pure rfl rfl rfl rfl (op_load_one ag26 rfl rfl) ?_
                  refine TL_nil ?_
                  refine TZ_one 9 (by kernel_rfl) rfl ?_
                  refine TL_pure rfl rfl rfl rfl (op_load_one ag2 rfl rfl) ?_
                  refine TL_nil ?_
                  refine TZ_pure 10 (by kernel_rfl) rfl rfl rfl rfl rfl (op_mulW rfl rfl) ?_
                  refine TZ_pure 20 (by kernel_rfl) rfl rfl rfl rfl rfl (op_addW rfl rfl) ?_
                  refine TZ_one 21 (by kernel_rfl) rfl ?_
                  refine TL_buildSlice 605 (es := List.map a_i64 [(w64 ((w64 (q40 * x115)) + (w64 (q37 * x124))))]) el26 z2 rfl rfl rfl rfl rfl rfl rfl rfl rfl ?_
                  refine TL_nil ?_
                  refine TZ_one 22 (by kernel_rfl) rfl ?_
                  refine TL_appendT (f := a_i64) (a := s1.2.1) (b := [(w64 ((w64 (q40 * x115)) + (w64 (q37 * x124))))]) el26 z2 rfl rfl rfl rfl rfl rfl rfl (capI_spec hq129) rfl rfl rfl rfl rfl ?_
                  refine TL_nil ?_
                  refine TZ_pure 23 (by kernel_rfl) rfl rfl rfl rfl rfl (op_fieldAddr fa91_2 rfl rfl) ?_
                  refine TZ_one 24 (by kernel_rfl) rfl ?_
                  refine TL_store_box sz26 rfl rfl rfl rfl rfl rfl rfl rfl rfl ?_
                  refine TL_nil ?_
                  refine TZ_done (by kernel_rfl) ?_
                  refine T_keepH [0, 1, 6, 8, 9, 10, 11, 13] [11, 15, 19, 315] rfl rfl rfl rfl (by rw [hF]; rfl) ?_
                  exact hj1 (s1.2.1 ++ [(w64 ((w64 (q40 * x115)) + (w64 (q37 * x124))))]) hm
                · refine ⟨_, rfl, ?_⟩
                  refine TL_pure rfl rfl rfl rfl (op_load_one ag2 rfl rfl) ?_
                  refine TL_nil ?_
                  refine TZ_pure 10 (by kernel_rfl) rfl rfl rfl rfl rfl (op_mulW rfl rfl) ?_
                  refine TZ_pure 20 (by kernel_rfl) rfl rfl rfl rfl rfl (op_addW rfl rfl) ?_
                  refine TZ_each [1, 21] (by kernel_rfl) rfl ?_
                  refine ⟨?_, ?_⟩
                  · refine ⟨_, rfl, ?_⟩
                    refine TL_pure rfl rfl rfl rfl (op_load_one ag26 rfl rfl) ?_
                    refine TL_nil ?_
                    refine TZ_one 21 (by kernel_rfl) rfl ?_
                    refine TL_buildSlice 607 (es := List.map a_i64 [(w64 ((w64 (q40 * x115)) + (w64 (q37 * x124))))]) el26 z2 rfl rfl rfl rfl rfl rfl rfl rfl rfl ?_
                    refine TL_nil ?_
                    refine TZ_one 22 (by kernel_rfl) rfl ?_
                    refine TL_appendT (f := a_i64) (a := s1.2.1) (b := [(w64 ((w64 (q40 * x115)) + (w64 (q37 * x124))))]) el26 z2 rfl rfl rfl rfl rfl rfl rfl (capI_spec hq129) rfl rfl rfl rfl rfl ?_
                    refine TL_nil ?_
                    refine TZ_pure 23 (by kernel_rfl) rfl rfl rfl rfl rfl (op_fieldAddr fa91_2 rfl rfl) ?_
                    refine TZ_one 24 (by kernel_rfl) rfl ?_
                    refine TL_store_box sz26 rfl rfl rfl rfl rfl rfl rfl rfl rfl ?_
                    refine TL_nil ?_
                    refine TZ_done (by kernel_rfl) ?_
                    refine T_keepH [0, 1, 6, 8, 9, 10, 11, 13] [11, 15, 19, 315] rfl rfl rfl rfl (by rw [hF]; rfl) ?_
                    exact hj1 (s1.2.1 ++ [(w64 ((w64 (q40 * x115)) + (w64 (q37 * x124))))]) hm
                  · refine ⟨_, rfl, ?_⟩
                    refine TL_buildSlice 606 (es := List.map a_i64 [(w64 ((w64 (q40 * x115)) + (w64 (q37 * x124))))]) el26 z2 rfl rfl rfl rfl rfl rfl rfl rfl rfl ?_
                    refine TL_nil ?_
                    refine TZ_pure 1 (by kernel_rfl) rfl rfl rfl rfl rfl (op_load_one ag26 rfl rfl) ?_
                    refine TZ_one 22 (by kernel_rfl) rfl ?_
                    refine TL_appendT (f := a_i64) (a := s1.2.1) (b := [(w64 ((w64 (q40 * x115)) + (w64 (q37 * x124))))]) el26 z2 rfl rfl rfl rfl rfl rfl rfl (capI_spec hq129) rfl rfl rfl rfl rfl ?_
                    refine TL_nil ?_
                    refine TZ_pure 23 (by kernel_rfl) rfl rfl rfl rfl rfl (op_fieldAddr fa91_2 rfl rfl) ?_
                    refine TZ_one 24 (by kernel_rfl) rfl ?_
                    refine TL_store_box sz26 rfl rfl rfl rfl rfl rfl rfl rfl rfl ?_
                    refine TL_nil ?_
                    refine TZ_done (by kernel_rfl) ?_
                    refine T_keepH [0, 1, 6, 8, 9, 10, 11, 13] [11, 15, 19, 315] rfl rfl rfl rfl (by rw [hF]; rfl) ?_
                    exact hj1 (s1.2.1 ++ [(w64 ((w64 (q40 * x115)) + (w64 (q37 * x124))))]) hm
      · replace hm := condF hq hm
        refine T_keepH [6, 10, 11] [11, 15, 19, 315] rfl rfl rfl rfl (by rw [hF]; rfl) ?_
        refine T_exit ?_
        obtain rfl := someI hm
        have hn := CtlOK_out hc1
        exact hx1 (s1.1, s1.2.1) hn
  · unfold m_spec_l06Mix_L0 at hm
    refine T_seq ?_
    refine T_seq ?_
    refine T_region ?_
    refine TL_pure rfl rfl rfl rfl (op_move rfl) ?_
    refine TL_pure rfl rfl rfl rfl (op_move rfl) ?_
    refine TL_pure rfl rfl rfl rfl (op_nilCheck rfl rfl) ?_
    refine TL_pure rfl rfl rfl rfl (op_fieldAddrC (n := 1) fa91_1 rfl rfl rfl) ?_
    refine TL_pure rfl rfl rfl rfl (op_load_one ag26 rfl rfl) ?_
    refine TL_pure rfl rfl rfl rfl (op_lenT Try.underlying26 rfl (List.length_map _)) ?_
    refine TL_fact (fun _ _ _ hr => RelP.slLen (i := 62) rfl hr) (fun hlen63 => ?_)
    rw [List.length_map] at hlen63
    refine TL_pure rfl rfl rfl rfl (op_lss rfl rfl) ?_
    refine TL_nil ?_
    refine T_cond rfl (fun hq => ?_) (fun hq => ?_)
    · replace hm := condT hq hm
      refine T_skip ?_
      refine T_seq ?_
      refine T_block ?_
      refine T_join (fun (j0 : List Int) => ⟨[(0, .cp [.int .i64 p0.c, .sl 1 (List.map a_i64 p0.list), .sl 1 (List.map a_i64 p0.times)]), (1, .cp [.int .i64 p1.c, .sl 1 (List.map a_i64 p1.list), .sl 1 (List.map a_i64 p1.times)]), (6, .ptr 11 0 0), (8, .int .i64 q37), (9, .int .i64 q40), (10, .int .i64 s0.1), (11, .ptr 15 0 0), (12, .int .i64 s0.2.2)], [(11, .box [.int .i64 (0 : Int), .snil, .snil]), (15, .box [.int .i64 (w64 ((w64 (q40 * p0.c)) + (w64 (q37 * p1.c)))), .ow 19, .snil]), (19, .arr ⟨false, false⟩ 1 2 (List.map a_i64 j0))]⟩) (fun j0 => m_spec_l06Mix_J0 s0 j0 = some c0) (fun j0 hm => ?_) (fun hj0 => ?_)
      · unfold m_spec_l06Mix_J0 at hm
        refine T_region ?_
        refine TL_pure rfl rfl rfl rfl (op_move rfl) ?_
        refine TL_pure rfl rfl rfl rfl (op_fieldAddr fa91_1 rfl rfl) ?_
        refine TL_pure rfl rfl rfl rfl (op_load_one ag26 rfl rfl) ?_
        refine TL_pure rfl rfl rfl rfl (op_move rfl) ?_
        obtain ⟨x95, hx95, hm⟩ := bindS hm
        refine TL_pure rfl rfl rfl rfl (op_indexO el26 rfl rfl rfl hx95) ?_
        refine TL_pure rfl rfl rfl rfl (op_loadT1 ag2 rfl rfl ((getI_spec hx95).2) rfl rfl) ?_
        obtain ⟨r97, hr97, hm⟩ := bindS hm
        refine TL_callF (c_spec_l06Gcd s0.1 x95 r97 hr97) Try.call118 rfl rfl rfl rfl rfl ?_
        refine TL_pure rfl rfl rfl rfl (op_assign rfl) ?_
        refine TL_nil ?_
        refine T_region ?_
        refine TL_pure rfl rfl rfl rfl (op_move rfl) ?_
        refine TL_pure rfl rfl rfl rfl (op_addW rfl rfl) ?_
        refine TL_pure rfl rfl rfl rfl (op_assign rfl) ?_
        refine TL_nil ?_
        refine TR_keepH [0, 1, 6, 8, 9, 10, 11, 12] [11, 15, 19] rfl rfl rfl rfl (by rw [hF]; rfl) ?_
        obtain rfl := someI hm
        have hn := CtlOK_next hc0
        exact hn _ rfl
      · refine T_drawZ [21, 22, 24] mix (by kernel_rfl) rfl ?_
        obtain ⟨x75, hx75, hm⟩ := bindS hm
        obtain ⟨x84, hx84, hm⟩ := bindS hm
        obtain ⟨q89, hq89, hm⟩ := bindS hm
        refine TZ_pure 0 (by kernel_rfl) rfl rfl rfl rfl rfl (op_fieldAddr fa91_1 rfl rfl) ?_
        refine TZ_pure 2 (by kernel_rfl) rfl rfl rfl rfl rfl (op_move rfl) ?_
        refine TZ_pure 3 (by kernel_rfl) rfl rfl rfl rfl rfl (op_move rfl) ?_
        refine TZ_pure 4 (by kernel_rfl) rfl rfl rfl rfl rfl (op_nilCheck rfl rfl) ?_
        refine TZ_pure 5 (by kernel_rfl) rfl rfl rfl rfl rfl (op_fieldAddrC (n := 1) fa91_1 rfl rfl rfl) ?_
        refine TZ_pure 7 (by kernel_rfl) rfl rfl rfl rfl rfl (op_move rfl) ?_
        refine TZ_pure 11 (by kernel_rfl) rfl rfl rfl rfl rfl (op_move rfl) ?_
        refine TZ_pure 12 (by kernel_rfl) rfl rfl rfl rfl rfl (op_move rfl) ?_
        refine TZ_pure 13 (by kernel_rfl) rfl rfl rfl rfl rfl (op_nilCheck rfl rfl) ?_
        refine TZ_pure 14 (by kernel_rfl) rfl rfl rfl rfl rfl (op_fieldAddrC (n := 1) fa91_1 rfl rfl rfl) ?_
        refine TZ_pure 16 (by kernel_rfl) rfl rfl rfl rfl rfl (op_move rfl) ?_
        refine TZ_each [1, 6, 15] (by kernel_rfl) rfl ?_
        refine ⟨?_, ?_, ?_⟩
        · refine ⟨_, rfl, ?_⟩
          refine TL_pure rfl rfl rfl rfl (op_load_one ag26 rfl rfl) ?_
          refine TL_nil ?_
          refine TZ_each [6, 15] (by kernel_rfl) rfl ?_
          refine ⟨?_, ?_⟩
          · refine ⟨_, rfl, ?_⟩
            refine TL_pure rfl rfl rfl rfl (op_load_one ag26 rfl rfl) ?_
            refine TL_nil ?_
            refine TZ_pure 8 (by kernel_rfl) rfl rfl rfl rfl rfl (op_indexT el26 rfl rfl hx75 rfl) ?_
            refine TZ_each [9, 15] (by kernel_rfl) rfl ?_
            refine ⟨?_, ?_⟩
            · refine ⟨_, rfl, ?_⟩
              refine TL_pure rfl rfl rfl rfl (op_load_one ag2 rfl rfl) ?_
              refine TL_nil ?_
              refine TZ_pure 10 (by kernel_rfl) rfl rfl rfl rfl rfl (op_mulW rfl rfl) ?_
              refine TZ_one 15 (by kernel_rfl) rfl ?_
              refine TL_pure rfl rfl rfl rfl (op_load_one ag26 rfl rfl) ?_
              refine TL_nil ?_
              refine TZ_pure 17 (by kernel_rfl) rfl rfl rfl rfl rfl (op_indexT el26 rfl rfl hx84 rfl) ?_
              refine TZ_one 18 (by kernel_rfl) rfl ?_
              refine TL_pure rfl rfl rfl rfl (op_load_one ag2 rfl rfl) ?_
              refine TL_nil ?_
              refine TZ_pure 19 (by kernel_rfl) rfl rfl rfl rfl rfl (op_mulW rfl rfl) ?_
              refine TZ_pure 20 (by kernel_rfl) rfl rfl rfl rfl rfl (op_addW rfl rfl) ?_
              refine TZ_one 21 (by kernel_rfl) rfl ?_
              refine TL_buildSlice 276 (es := List.map a_i64 [(w64 ((w64 (q40 * x75)) + (w64 (q37 * x84))))]) el26 z2 rfl rfl rfl rfl rfl rfl rfl rfl rfl ?_
              refine TL_nil ?_
              refine TZ_one 22 (by kernel_rfl) rfl ?_
              refine TL_appendT (f := a_i64) (a := s0.2.1) (b := [(w64 ((w64 (q40 * x75)) + (w64 (q37 * x84))))]) el26 z2 rfl rfl rfl rfl rfl rfl rfl (capI_spec hq89) rfl rfl rfl rfl rfl ?_
              refine TL_nil ?_
              refine TZ_pure 23 (by kernel_rfl) rfl rfl rfl rfl rfl (op_fieldAddr fa91_1 rfl rfl) ?_
              refine TZ_one 24 (by kernel_rfl) rfl ?_
              refine TL_store_box sz26 rfl rfl rfl rfl rfl rfl rfl rfl rfl ?_
              refine TL_nil ?_
              refine TZ_done (by kernel_rfl) ?_
              refine T_keepH [0, 1, 6, 8, 9, 10, 11, 12] [11, 15, 19] rfl rfl rfl rfl (by rw [hF]; rfl) ?_
              exact hj0 (s0.2.1 ++ [(w64 ((w64 (q40 * x75)) + (w64 (q37 * x84))))]) hm
            · refine ⟨_, rfl, ?_⟩
              refine TL_pure rfl rfl rfl rfl (op_load_one ag26 rfl rfl) ?_
              refine TL_nil ?_
              refine TZ_pure 17 (by kernel_rfl) rfl rfl rfl rfl rfl (op_indexT el26 rfl rfl hx84 rfl) ?_
              refine TZ_each [9, 18] (by kernel_rfl) rfl ?_
              refine ⟨?_, ?_⟩
              · refine ⟨_, rfl, ?_⟩
                refine TL_pure rfl rfl rfl rfl (op_load_one ag2 rfl rfl) ?_
                refine TL_nil ?_
                refine TZ_pure 10 (by kernel_rfl) rfl rfl rfl rfl rfl (op_mulW rfl rfl) ?_
                refine TZ_one 18 (by kernel_rfl) rfl ?_
                refine TL_pure rfl rfl rfl rfl (op_load_one ag2 rfl rfl) ?_
                refine TL_nil ?_
                refine TZ_pure 19 (by kernel_rfl) rfl rfl rfl rfl rfl (op_mulW rfl rfl) ?_
                refine TZ_pure 20 (by kernel_rfl) rfl rfl rfl rfl rfl (op_addW rfl rfl) ?_
                refine TZ_one 21 (by kernel_rfl) rfl ?_
                refine TL_buildSlice 277 (es := List.map a_i64 [(w64 ((w64 (q40 * x75)) + (w64 (q37 * x84))))]) el26 z2 rfl rfl rfl rfl rfl rfl rfl rfl rfl ?_
                refine TL_nil ?_
                refine TZ_one 22 (by kernel_rfl) rfl ?_
                refine TL_appendT (f := a_i64) (a := s0.2.1) (b := [(w64 ((w64 (q40 * x75)) + (w64 (q37 * x84))))]) el26 z2 rfl rfl rfl rfl rfl rfl rfl (capI_spec hq89) rfl rfl rfl rfl rfl ?_
                refine TL_nil ?_
                refine TZ_pure 23 (by kernel_rfl) rfl rfl rfl rfl rfl (op_fieldAddr fa91_1 rfl rfl) ?_
                refine TZ_one 24 (by kernel_rfl) rfl ?_
                refine TL_store_box sz26 rfl rfl rfl rfl rfl rfl rfl rfl rfl ?_
                refine TL_nil ?_
                refine TZ_done (by kernel_rfl) ?_
                refine T_keepH [0, 1, 6, 8, 9, 10, 11, 12] [11, 15, 19] rfl rfl rfl rfl (by rw [hF]; rfl) ?_
                exact hj0 (s0.2.1 ++ [(w64 ((w64 (q40 * x75)) + (w64 (q37 * x84))))]) hm
              · refine ⟨_, rfl, ?_⟩
                refine TL_pure rfl rfl rfl rfl (op_load_one ag2 rfl rfl) ?_
                refine TL_nil ?_
                refine TZ_pure 19 (by kernel_rfl) rfl rfl rfl rfl rfl (op_mulW rfl rfl) ?_
                refine TZ_one 9 (by kernel_rfl) rfl ?_
                refine TL_pure rfl rfl rfl rfl (op_load_one ag2 rfl rfl) ?_
                refine TL_nil ?_
                refine TZ_pure 10 (by kernel_rfl) rfl rfl rfl rfl rfl (op_mulW rfl rfl) ?_
                refine TZ_pure 20 (by kernel_rfl) rfl rfl rfl rfl rfl (op_addW rfl rfl) ?_
                refine TZ_one 21 (by kernel_rfl) rfl ?_
                refine TL_buildSlice 278 (es := List.map a_i64 [(w64 ((w64 (q40 * x75)) + (w64 (q37 * x84))))]) el26 z2 rfl rfl rfl rfl rfl rfl rfl rfl rfl ?_
                refine TL_nil ?_
                refine TZ_one 22 (by kernel_rfl) rfl ?_
                refine TL_appendT (f := a_i64) (a := s0.2.1) (b := [(w64 ((w64 (q40 * x75)) + (w64 (q37 * x84))))]) el26 z2 rfl rfl rfl rfl rfl rfl rfl (capI_spec hq89) rfl rfl rfl rfl rfl ?_
                refine TL_nil ?_
                refine TZ_pure 23 (by kernel_rfl) rfl rfl rfl rfl rfl (op_fieldAddr fa91_1 rfl rfl) ?_
                refine TZ_one 24 (by kernel_rfl) rfl ?_
                refine TL_store_box sz26 rfl rfl rfl rfl rfl rfl rfl rfl rfl ?_
                refine TL_nil ?_
                refine TZ_done (by kernel_rfl) ?_
                refine T_keepH [0, 1, 6, 8, 9, 10, 11, 12] [11, 15, 19] rfl rfl rfl rfl (by rw [hF]; rfl) ?_
                exact hj0 (s0.2.1 ++ [(w64 ((w64 (q40 * x75)) + (w64 (q37 * x84))))]) hm
          · refine ⟨_, rfl, ?_⟩
            refine TL_pure rfl rfl rfl rfl (op_load_one ag26 rfl rfl) ?_
            refine TL_nil ?_
            refine TZ_pure 17 (by kernel_rfl) rfl rfl rfl rfl rfl (op_indexT el26 rfl rfl hx84 rfl) ?_
            refine TZ_each [6, 18] (by kernel_rfl) rfl ?_
            refine ⟨?_, ?_⟩
            · refine ⟨_, rfl, ?_⟩
              refine TL_pure rfl rfl rfl rfl (op_load_one ag26 rfl rfl) ?_
              refine TL_nil ?_
              refine TZ_pure 8 (by kernel_rfl) rfl rfl rfl rfl rfl (op_indexT el26 rfl rfl hx75 rfl) ?_
              refine TZ_each [9, 18] (by kernel_rfl) rfl ?_
              refine ⟨?_, ?_⟩
              · refine ⟨_, rfl, ?_⟩
                refine TL_pure rfl rfl rfl rfl (op_load_one ag2 rfl rfl) ?_
                refine TL_nil ?_
                refine TZ_pure 10 (by kernel_rfl) rfl rfl rfl rfl rfl (op_mulW rfl rfl) ?_
                refine TZ_one 18 (by kernel_rfl) rfl ?_
                refine TL_pure rfl rfl rfl rfl (op_load_one ag2 rfl rfl) ?_
                refine TL_nil ?_
                refine TZ_pure 19 (by kernel_rfl) rfl rfl rfl rfl rfl (op_mulW rfl rfl) ?_
                refine TZ_pure 20 (by kernel_rfl) rfl rfl rfl rfl rfl (op_addW rfl rfl) ?_
                refine TZ_one 21 (by kernel_rfl) rfl ?_
                refine TL_buildSlice 279 (es := List.map a_i64 [(w64 ((w64 (q40 * x75)) + (w64 (q37 * x84))))]) el26 z2 rfl rfl rfl rfl rfl rfl rfl rfl rfl ?_
                refine TL_nil ?_
                refine TZ_one 22 (by kernel_rfl) rfl ?_
                refine TL_appendT (f := a_i64) (a := s0.2.1) (b := [(w64 ((w64 (q40 * x75)) + (w64 (q37 * x84))))]) el26 z2 rfl rfl rfl rfl rfl rfl rfl (capI_spec hq89) rfl rfl rfl rfl rfl ?_
                refine TL_nil ?_
                refine TZ_pure 23 (by kernel_rfl) rfl rfl rfl rfl rfl (op_fieldAddr fa91_1 rfl rfl) ?_
                refine TZ_one 24 (by kernel_rfl) rfl ?_
                refine TL_store_box sz26 rfl rfl rfl rfl rfl rfl rfl rfl rfl ?_
                refine TL_nil ?_
                refine TZ_done (by kernel_rfl) ?_
                refine T_keepH [0, 1, 6, 8, 9, 10, 11, 12] [11, 15, 19] rfl rfl rfl rfl (by rw [hF]; rfl) ?_
                exact hj0 (s0.2.1 ++ [(w64 ((w64 (q40 * x75)) + (w64 (q37 * x84))))]) hm
              · refine ⟨_, rfl, ?_⟩
                refine TL_pure rfl rfl rfl rfl (op_load_one ag2 rfl rfl) ?_
                refine TL_nil ?_
                refine TZ_pure 19 (by kernel_rfl) rfl rfl rfl rfl rfl (op_mulW rfl rfl) ?_
                refine TZ_one 9 (by kernel_rfl) rfl ?_
                refine TL_pure rfl rfl rfl rfl (op_load_one ag2 rfl rfl) ?_
                refine TL_nil ?_
                refine TZ_pure 10 (by kernel_rfl) rfl rfl rfl rfl rfl (op_mulW rfl rfl) ?_
                refine TZ_pure 20 (by kernel_rfl) rfl rfl rfl rfl rfl (op_addW rfl rfl) ?_
                refine TZ_one 21 (by kernel_rfl) rfl ?_
                refine TL_buildSlice 280 (es := List.map a_i64 [(w64 ((w64 (q40 * x75)) + (w64 (q37 * x84))))]) el26 z2 rfl rfl rfl rfl rfl rfl rfl rfl rfl ?_
                refine TL_nil ?_
                refine TZ_one 22 (by kernel_rfl) rfl ?_
                refine TL_appendT (f := a_i64) (a := s0.2.1) (b := [(w64 ((w64 (q40 * x75)) + (w64 (q37 * x84))))]) el26 z2 rfl rfl rfl rfl rfl rfl rfl (capI_spec hq89) rfl rfl rfl rfl rfl ?_
                refine TL_nil ?_
                refine TZ_pure 23 (by kernel_rfl) rfl rfl rfl rfl rfl (op_fieldAddr fa91_1 rfl rfl) ?_
                refine TZ_one 24 (by kernel_rfl) rfl ?_
                refine TL_store_box sz26 rfl rfl rfl rfl rfl rfl rfl rfl rfl ?_
                refine TL_nil ?_
                refine TZ_done (by kernel_rfl) ?_
                refine T_keepH [0, 1, 6, 8, 9, 10, 11, 12] [11, 15, 19] rfl rfl rfl rfl (by rw [hF]; rfl) ?_
                exact hj0 (s0.2.1 ++ [(w64 ((w64 (q40 * x75)) + (w64 (q37 * x84))))]) hm
            · refine ⟨_, rfl, ?_⟩
              refine TL_pure rfl rfl rfl rfl (op_load_one ag2 rfl rfl) ?_
              refine TL_nil ?_
              refine TZ_pure 19 (by kernel_rfl) rfl rfl rfl rfl rfl (op_mulW rfl rfl) ?_
              refine TZ_one 6 (by kernel_rfl) rfl ?_
              refine TL_pure rfl rfl rfl rfl (op_load_one ag26 rfl rfl) ?_
              refine TL_nil ?_
              refine TZ_pure 8 (by kernel_rfl) rfl rfl rfl rfl rfl (op_indexT el26 rfl rfl hx75 rfl) ?_
              refine TZ_one 9 (by kernel_rfl) rfl ?_
              refine TL_pure rfl rfl rfl rfl (op_load_one ag2 rfl rfl) ?_
              refine TL_nil ?_
              refine TZ_pure 10 (by kernel_rfl) rfl rfl rfl rfl rfl (op_mulW rfl rfl) ?_
              refine TZ_pure 20 (by kernel_rfl) rfl rfl rfl rfl rfl (op_addW rfl rfl) ?_
              refine TZ_one 21 (by kernel_rfl) rfl ?_
              refine TL_buildSlice 281 (es := List.map a_i64 [(w64 ((w64 (q40 * x75)) + (w64 (q37 * x84))))]) el26 z2 rfl rfl rfl rfl rfl rfl rfl rfl rfl ?_
              refine TL_nil ?_
              refine TZ_one 22 (by kernel_rfl) rfl ?_
              refine TL_appendT (f := a_i64) (a := s0.2.1) (b := [(w64 ((w64 (q40 * x75)) + (w64 (q37 * x84))))]) el26 z2 rfl rfl rfl rfl rfl rfl rfl (capI_spec hq89) rfl rfl rfl rfl rfl ?_
              refine TL_nil ?_
              refine TZ_pure 23 (by kernel_rfl) rfl rfl rfl rfl rfl (op_fieldAddr fa91_1 rfl rfl) ?_
              refine TZ_one 24 (by kernel_rfl) rfl ?_
              refine TL_store_box sz26 rfl rfl rfl rfl rfl rfl rfl rfl rfl ?_
              refine TL_nil ?_
              refine TZ_done (by kernel_rfl) ?_
              refine T_keepH [0, 1, 6, 8, 9, 10, 11, 12] [11, 15, 19] rfl rfl rfl rfl (by rw [hF]; rfl) ?_
              exact hj0 (s0.2.1 ++ [(w64 ((w64 (q40 * x75)) + (w64 (q37 * x84))))]) hm
        · refine ⟨_, rfl, ?_⟩
          refine TL_pure rfl rfl rfl rfl (op_load_one ag26 rfl rfl) ?_
          refine TL_nil ?_
          refine TZ_pure 8 (by kernel_rfl) rfl rfl rfl rfl rfl (op_indexT el26 rfl rfl hx75 rfl) ?_
          refine TZ_each [1, 9, 15] (by kernel_rfl) rfl ?_
          refine ⟨?_, ?_, ?_⟩
          · refine ⟨_, rfl, ?_⟩
            refine TL_pure rfl rfl rfl rfl (op_load_one ag26 rfl rfl) ?_
            refine TL_nil ?_
            refine TZ_each [9, 15] (by kernel_rfl) rfl ?_
            refine ⟨?_, ?_⟩
            · refine ⟨_, rfl, ?_⟩
              refine TL_pure rfl rfl rfl rfl (op_load_one ag2 rfl rfl) ?_
              refine TL_nil ?_
              refine TZ_pure 10 (by kernel_rfl) rfl rfl rfl rfl rfl (op_mulW rfl rfl) ?_
              refine TZ_one 15 (by kernel_rfl) rfl ?_
              refine TL_pure rfl rfl rfl rfl (op_load_one ag26 rfl rfl) ?_
              refine TL_nil ?_
              refine TZ_pure 17 (by kernel_rfl) rfl rfl rfl rfl rfl (op_indexT el26 rfl rfl hx84 rfl) ?_
              refine TZ_one 18 (by kernel_rfl) rfl ?_
              refine TL_pure rfl rfl rfl rfl (op_load_one ag2 rfl rfl) ?_
              refine TL_nil ?_
              refine TZ_pure 19 (by kernel_rfl) rfl rfl rfl rfl rfl (op_mulW rfl rfl) ?_
              refine TZ_pure 20 (by kernel_rfl) rfl rfl rfl rfl rfl (op_addW rfl rfl) ?_
              refine TZ_one 21 (by kernel_rfl) rfl ?_
              refine TL_buildSlice 282 (es := List.map a_i64 [(w64 ((w64 (q40 * x75)) + (w64 (q37 * x84))))]) el26 z2 rfl rfl rfl rfl rfl rfl rfl rfl rfl ?_
              refine TL_nil ?_
              refine TZ_one 22 (by kernel_rfl) rfl ?_
              refine TL_appendT (f := a_i64) (a := s0.2.1) (b := [(w64 ((w64 (q40 * x75)) + (w64 (q37 * x84))))]) el26 z2 rfl rfl rfl rfl rfl rfl rfl (capI_spec hq89) rfl rfl rfl rfl rfl ?_
              refine TL_nil ?_
              refine TZ_pure 23 (by kernel_rfl) rfl rfl rfl rfl rfl (op_fieldAddr fa91_1 rfl rfl) ?_
              refine TZ_one 24 (by kernel_rfl) rfl ?_
              refine TL_store_box sz26 rfl rfl rfl rfl rfl rfl rfl rfl rfl ?_
              refine TL_nil ?_
              refine TZ_done (by kernel_rfl) ?_
              refine T_keepH [0, 1, 6, 8, 9, 10, 11, 12] [11, 15, 19] rfl rfl rfl rfl (by rw [hF]; rfl) ?_
              exact hj0 (s0.2.1 ++ [(w64 ((w64 (q40 * x75)) + (w64 (q37 * x84))))]) hm
            · refine ⟨_, rfl, ?_⟩
              refine TL_pure rfl rfl rfl rfl (op_load_one ag26 rfl rfl) ?_
              refine TL_nil ?_
              refine TZ_pure 17 (by kernel_rfl) rfl rfl rfl rfl rfl (op_indexT el26 rfl rfl hx84 rfl) ?_
              refine TZ_each [9, 18] (by kernel_rfl) rfl ?_
              refine ⟨?_, ?_⟩
              · refine ⟨_, rfl, ?_⟩
                refine TL_pure rfl rfl rfl rfl (op_load_one ag2 rfl rfl) ?_
                refine TL_nil ?_
                refine TZ_pure 10 (by kernel_rfl) rfl rfl rfl rfl rfl (op_mulW rfl rfl) ?_
                refine TZ_one 18 (by kernel_rfl) rfl ?_
                refine TL_pure rfl rfl rfl rfl (op_load_one ag2 rfl rfl) ?_
                refine TL_nil ?_
                refine TZ_pure 19 (by kernel_rfl) rfl rfl rfl rfl rfl (op_mulW rfl rfl) ?_
                refine TZ_pure 20 (by kernel_rfl) rfl rfl rfl rfl rfl (op_addW rfl rfl) ?_
                refine TZ_one 21 (by kernel_rfl) rfl ?_
                refine TL_buildSlice 283 (es := List.map a_i64 [(w64 ((w64 (q40 * x75)) + (w64 (q37 * x84))))]) el26 z2 rfl rfl rfl rfl rfl rfl rfl rfl rfl ?_
                refine TL_nil ?_
                refine TZ_one 22 (by kernel_rfl) rfl ?_
                refine TL_appendT (f := a_i64) (a := s0.2.1) (b := [(w64 ((w64 (q40 * x75)) + (w64 (q37 * x84))))]) el26 z2 rfl rfl rfl rfl rfl rfl rfl (capI_spec hq89) rfl rfl rfl rfl rfl ?_
                refine TL_nil ?_
                refine TZ_pure 23 (by kernel_rfl) rfl rfl rfl rfl rfl (op_fieldAddr fa91_1 rfl rfl) ?_
                refine TZ_one 24 (by kernel_rfl) rfl ?_
                refine TL_store_box sz26 rfl rfl rfl rfl rfl rfl rfl rfl rfl ?_
                refine TL_nil ?_
                refine TZ_done (by kernel_rfl) ?_
                refine T_keepH [0, 1, 6, 8, 9, 10, 11, 12] [11, 15, 19] rfl rfl rfl rfl (by rw [hF]; rfl) ?_
                exact hj0 (s0.2.1 ++ [(w64 ((w64 (q40 * x75)) + (w64 (q37 * x84))))]) hm
              · refine ⟨_, rfl, ?_⟩
                refine TL_pure rfl rfl rfl rfl (op_load_one ag2 rfl rfl) ?_
                refine TL_nil ?_
                refine TZ_pure 19 (by kernel_rfl) rfl rfl rfl rfl rfl (op_mulW rfl rfl) ?_
                refine TZ_one 9 (by kernel_rfl) rfl ?_
                refine TL_pure rfl rfl rfl rfl (op_load_one ag2 rfl rfl) ?_
                refine TL_nil ?_
                refine TZ_pure 10 (by kernel_rfl) rfl rfl rfl rfl rfl (op_mulW rfl rfl) ?_
                refine TZ_pure 20 (by kernel_rfl) rfl rfl rfl rfl rfl (op_addW rfl rfl) ?_
                refine TZ_one 21 (by kernel_rfl) rfl ?_
                refine TL_buildSlice 284 (es := List.map a_i64 [(w64 ((w64 (q40 * x75)) + (w64 (q37 * x84))))]) el26 z2 rfl rfl rfl rfl rfl rfl rfl rfl rfl ?_
                refine TL_nil ?_
                refine TZ_one 22 (by kernel_rfl) rfl ?_
                refine TL_appendT (f := a_i64) (a := s0.2.1) (b := [(w64 ((w64 (q40 * x75)) + (w64 (q37 * x84))))]) el26 z2 rfl rfl rfl rfl rfl rfl rfl (capI_spec hq89) rfl rfl rfl rfl rfl ?_
                refine TL_nil ?_
                refine TZ_pure 23 (by kernel_rfl) rfl rfl rfl rfl rfl (op_fieldAddr fa91_1 rfl rfl) ?_
                refine TZ_one 24 (by kernel_rfl) rfl ?_
                refine TL_store_box sz26 rfl rfl rfl rfl rfl rfl rfl rfl rfl ?_
                refine TL_nil ?_
                refine TZ_done (by kernel_rfl) ?_
                refine T_keepH [0, 1, 6, 8, 9, 10, 11, 12] [11, 15, 19] rfl rfl rfl rfl (by rw [hF]; rfl) ?_
                exact hj0 (s0.2.1 ++ [(w64 ((w64 (q40 * x75)) + (w64 (q37 * x84))))]) hm
          · refine ⟨_, rfl, ?_⟩
            refine TL_pure rfl rfl rfl rfl (op_load_one ag2 rfl rfl) ?_
            refine TL_nil ?_
            refine TZ_pure 10 (by kernel_rfl) rfl rfl rfl rfl rfl (op_mulW rfl rfl) ?_
            refine TZ_each [1, 15] (by kernel_rfl) rfl ?_
            refine ⟨?_, ?_⟩
            · refine ⟨_, rfl, ?_⟩
              refine TL_pure rfl rfl rfl rfl (op_load_one ag26 rfl rfl) ?_
              refine TL_nil ?_
              refine TZ_one 15 (by kernel_rfl) rfl ?_
              refine TL_pure rfl rfl rfl rfl (op_load_one ag26 rfl rfl) ?_
              refine TL_nil ?_
              refine TZ_pure 17 (by kernel_rfl) rfl rfl rfl rfl rfl (op_indexT el26 rfl rfl hx84 rfl) ?_
              refine TZ_one 18 (by kernel_rfl) rfl ?_
              refine TL_pure rfl rfl rfl rfl (op_load_one ag2 rfl rfl) ?_
              refine TL_nil ?_
              refine TZ_pure 19 (by kernel_rfl) rfl rfl rfl rfl rfl (op_mulW rfl rfl) ?_
              refine TZ_pure 20 (by kernel_rfl) rfl rfl rfl rfl rfl (op_addW rfl rfl) ?_
              refine TZ_one 21 (by kernel_rfl) rfl ?_
              refine TL_buildSlice 285 (es := List.map a_i64 [(w64 ((w64 (q40 * x75)) + (w64 (q37 * x84))))]) el26 z2 rfl rfl rfl rfl rfl rfl rfl rfl rfl ?_
              refine TL_nil ?_
              refine TZ_one 22 (by kernel_rfl) rfl ?_
              refine TL_appendT (f := a_i64) (a := s0.2.1) (b := [(w64 ((w64 (q40 * x75)) + (w64 (q37 * x84))))]) el26 z2 rfl rfl rfl rfl rfl rfl rfl (capI_spec hq89) rfl rfl rfl rfl rfl ?_
              refine TL_nil ?_
              refine TZ_pure 23 (by kernel_rfl) rfl rfl rfl rfl rfl (op_fieldAddr fa91_1 rfl rfl) ?_
              refine TZ_one 24 (by kernel_rfl) rfl ?_
              refine TL_store_box sz26 rfl rfl rfl rfl rfl rfl rfl rfl rfl ?_
              refine TL_nil ?_
              refine TZ_done (by kernel_rfl) ?_
              refine T_keepH [0, 1, 6, 8, 9, 10, 11, 12] [11, 15, 19] rfl rfl rfl rfl (by rw [hF]; rfl) ?_
              exact hj0 (s0.2.1 ++ [(w64 ((w64 (q40 * x75)) + (w64 (q37 * x84))))]) hm
            · refine ⟨_, rfl, ?_⟩
              refine TL_pure rfl rfl rfl rfl (op_load_one ag26 rfl rfl) ?_
              refine TL_nil ?_
              refine TZ_pure 17 (by kernel_rfl) rfl rfl rfl rfl rfl (op_indexT el26 rfl rfl hx84 rfl) ?_
              refine TZ_each [1, 18] (by kernel_rfl) rfl ?_
              refine ⟨?_, ?_⟩
              · refine ⟨_, rfl, ?_⟩
                refine TL_pure rfl rfl rfl rfl (op_load_one ag26 rfl rfl) ?_
                refine TL_nil ?_
                refine TZ_one 18 (by kernel_rfl) rfl ?_
                refine TL_pure rfl rfl rfl rfl (op_load_one ag2 rfl rfl) ?_
                refine TL_nil ?_
                refine TZ_pure 19 (by kernel_rfl) rfl rfl rfl rfl rfl (op_mulW rfl rfl) ?_
                refine TZ_pure 20 (by kernel_rfl) rfl rfl rfl rfl rfl (op_addW rfl rfl) ?_
                refine TZ_one 21 (by kernel_rfl) rfl ?_
                refine TL_buildSlice 286 (es := List.map a_i64 [(w64 ((w64 (q40 * x75)) + (w64 (q37 * x84))))]) el26 z2 rfl rfl rfl rfl rfl rfl rfl rfl rfl ?_
                refine TL_nil ?_
                refine TZ_one 22 (by kernel_rfl) rfl ?_
                refine TL_appendT (f := a_i64) (a := s0.2.1) (b := [(w64 ((w64 (q40 * x75)) + (w64 (q37 * x84))))]) el26 z2 rfl rfl rfl rfl rfl rfl rfl (capI_spec hq89) rfl rfl rfl rfl rfl ?_
                refine TL_nil ?_
                refine TZ_pure 23 (by kernel_rfl) rfl rfl rfl rfl rfl (op_fieldAddr fa91_1 rfl rfl) ?_
                refine TZ_one 24 (by kernel_rfl) rfl ?_
                refine TL_store_box sz26 rfl rfl rfl rfl rfl rfl rfl rfl rfl ?_
                refine TL_nil ?_
                refine TZ_done (by kernel_rfl) ?_
                refine T_keepH [0, 1, 6, 8, 9, 10, 11, 12] [11, 15, 19] rfl rfl rfl rfl (by rw [hF]; rfl) ?_
                exact hj0 (s0.2.1 ++ [(w64 ((w64 (q40 * x75)) + (w64 (q37 * x84))))]) hm
              · refine ⟨_, rfl, ?_⟩
                refine TL_pure rfl rfl rfl rfl (op_load_one ag2 rfl rfl) ?_
                refine TL_nil ?_
                refine TZ_pure 19 (by kernel_rfl) rfl rfl rfl rfl rfl (op_mulW rfl rfl) ?_
                refine TZ_pure 20 (by kernel_rfl) rfl rfl rfl rfl rfl (op_addW rfl rfl) ?_
                refine TZ_each [1, 21] (by kernel_rfl) rfl ?_
                refine ⟨?_, ?_⟩
                · refine ⟨_, rfl, ?_⟩
                  refine TL_pure rfl rfl rfl rfl (op_load_one ag26 rfl rfl) ?_
                  refine TL_nil ?_
                  refine TZ_one 21 (by kernel_rfl) rfl ?_
                  refine TL_buildSlice 288 (es := List.map a_i64 [(w64 ((w64 (q40 * x75)) + (w64 (q37 * x84))))]) el26 z2 rfl rfl rfl rfl rfl rfl rfl rfl rfl ?_
                  refine TL_nil ?_
                  refine TZ_one 22 (by kernel_rfl) rfl ?_
                  refine TL_appendT (f := a_i64) (a := s0.2.1) (b := [(w64 ((w64 (q40 * x75)) + (w64 (q37 * x84))))]) el26 z2 rfl rfl rfl rfl rfl rfl rfl (capI_spec hq89) rfl rfl rfl rfl rfl ?_
                  refine TL_nil ?_
                  refine TZ_pure 23 (by kernel_rfl) rfl rfl rfl rfl rfl (op_fieldAddr fa91_1 rfl rfl) ?_
                  refine TZ_one 24 (by kernel_rfl) rfl ?_
                  refine TL_store_box sz26 rfl rfl rfl rfl rfl rfl rfl rfl rfl ?_
                  refine TL_nil ?_
                  refine TZ_done (by kernel_rfl) ?_
                  refine T_keepH [0, 1, 6, 8, 9, 10, 11, 12] [11, 15, 19] rfl rfl rfl rfl (by rw [hF]; rfl) ?_
                  exact hj0 (s0.2.1 ++ [(w64 ((w64 (q40 * x75)) + (w64 (q37 * x84))))]) hm
                · refine ⟨_, rfl, ?_⟩
                  refine TL_buildSlice 287 (es := List.map a_i64 [(w64 ((w64 (q40 * x75)) + (w64 (q37 * x84))))]) el26 z2 rfl rfl rfl rfl rfl rfl rfl rfl rfl ?_
                  refine TL_nil ?_
                  refine TZ_pure 1 (by kernel_rfl) rfl rfl rfl rfl rfl (op_load_one ag26 rfl rfl) ?_
                  refine TZ_one 22 (by kernel_rfl) rfl ?_
                  refine TL_appendT (f := a_i64) (a := s0.2.1) (b := [(w64 ((w64 (q40 * x75)) + (w64 (q37 * x84))))]) el26 z2 rfl rfl rfl rfl rfl rfl rfl (capI_spec hq89) rfl rfl rfl rfl rfl ?_
                  refine TL_nil ?_
                  refine TZ_pure 23 (by kernel_rfl) rfl rfl rfl rfl rfl (op_fieldAddr fa91_1 rfl rfl) ?_
                  refine TZ_one 24 (by kernel_rfl) rfl ?_
                  refine TL_store_box sz26 rfl rfl rfl rfl rfl rfl rfl rfl rfl ?_
                  refine TL_nil ?_
                  refine TZ_done (by kernel_rfl) ?_
                  refine T_keepH [0, 1, 6, 8, 9, 10, 11, 12] [11, 15, 19] rfl rfl rfl rfl (by rw [hF]; rfl) ?_
                  exact hj0 (s0.2.1 ++ [(w64 ((w64 (q40 * x75)) + (w64 (q37 * x84))))]) hm
          · refine ⟨_, rfl, ?_⟩
            refine TL_pure rfl rfl rfl rfl (op_load_one ag26 rfl rfl) ?_
            refine TL_nil ?_
            refine TZ_pure 17 (by kernel_rfl) rfl rfl rfl rfl rfl (op_indexT el26 rfl rfl hx84 rfl) ?_
            refine TZ_each [1, 9, 18] (by kernel_rfl) rfl ?_
            refine ⟨?_, ?_, ?_⟩
            · refine ⟨_, rfl, ?_⟩
              refine TL_pure rfl rfl rfl rfl (op_load_one ag26 rfl rfl) ?_
              refine TL_nil ?_
              refine TZ_each [9, 18] (by kernel_rfl) rfl ?_
              refine ⟨?_, ?_⟩
              · refine ⟨_, rfl, ?_⟩
                refine TL_pure rfl rfl rfl rfl (op_load_one ag2 rfl rfl) ?_
                refine TL_nil ?_
                refine TZ_pure 10 (by kernel_rfl) rfl rfl rfl rfl rfl (op_mulW rfl rfl) ?_
                refine TZ_one 18 (by kernel_rfl) rfl ?_
                refine TL_pure rfl rfl rfl rfl (op_load_one ag2 rfl rfl) ?_
                refine TL_nil ?_
                refine TZ_pure 19 (by kernel_rfl) rfl rfl rfl rfl rfl (op_mulW rfl rfl) ?_
                refine TZ_pure 20 (by kernel_rfl) rfl rfl rfl rfl rfl (op_addW rfl rfl) ?_
                refine TZ_one 21 (by kernel_rfl) rfl ?_
                refine TL_buildSlice 289 (es := List.map a_i64 [(w64 ((w64 (q40 * x75)) + (w64 (q37 * x84))))]) el26 z2 rfl rfl rfl rfl rfl rfl rfl rfl rfl ?_
                refine TL_nil ?_
                refine TZ_one 22 (by kernel_rfl) rfl ?_
                refine TL_appendT (f := a_i64) (a := s0.2.1) (b := [(w64 ((w64 (q40 * x75)) + (w64 (q37 * x84))))]) el26 z2 rfl rfl rfl rfl rfl rfl rfl (capI_spec hq89) rfl rfl rfl rfl rfl ?_
                refine TL_nil ?_
                refine TZ_pure 23 (by kernel_rfl) rfl rfl rfl rfl rfl (op_fieldAddr fa91_1 rfl rfl) ?_
                refine TZ_one 24 (by kernel_rfl) rfl ?_
                refine TL_store_box sz26 rfl rfl rfl rfl rfl rfl rfl rfl rfl ?_
                refine TL_nil ?_
                refine TZ_done (by kernel_rfl) ?_
                refine T_keepH [0, 1, 6, 8, 9, 10, 11, 12] [11, 15, 19] rfl rfl rfl rfl (by rw [hF]; rfl) ?_
                exact hj0 (s0.2.1 ++ [(w64 ((w64 (q40 * x75)) + (w64 (q37 * x84))))]) hm
              · refine ⟨_, rfl, ?_⟩
                refine TL_pure rfl rfl rfl rfl (op_load_one ag2 rfl rfl) ?_
                refine TL_nil ?_
                refine TZ_pure 19 (by kernel_rfl) rfl rfl rfl rfl rfl (op_mulW rfl rfl) ?_
                refine TZ_one 9 (by kernel_rfl) rfl ?_
                refine TL_pure rfl rfl rfl rfl (op_load_one ag2 rfl rfl) ?_
                refine TL_nil ?_
                refine TZ_pure 10 (by kernel_rfl) rfl rfl rfl rfl rfl (op_mulW rfl rfl) ?_
                refine TZ_pure 20 (by kernel_rfl) rfl rfl rfl rfl rfl (op_addW rfl rfl) ?_
                refine TZ_one 21 (by kernel_rfl) rfl ?_
                refine TL_buildSlice 290 (es := List.map a_i64 [(w64 ((w64 (q40 * x75)) + (w64 (q37 * x84))))]) el26 z2 rfl rfl rfl rfl rfl rfl rfl rfl rfl ?_
                refine TL_nil ?_
                refine TZ_one 22 (by kernel_rfl) rfl ?_
                refine TL_appendT (f := a_i64) (a := s0.2.1) (b := [(w64 ((w64 (q40 * x75)) + (w64 (q37 * x84))))]) el26 z2 rfl rfl rfl rfl rfl rfl rfl (capI_spec hq89) rfl rfl rfl rfl rfl ?_
                refine TL_nil ?_
                refine TZ_pure 23 (by kernel_rfl) rfl rfl rfl rfl rfl (op_fieldAddr fa91_1 rfl rfl) ?_
                refine TZ_one 24 (by kernel_rfl) rfl ?_
                refine TL_store_box sz26 rfl rfl rfl rfl rfl rfl rfl rfl rfl ?_
                refine TL_nil ?_
                refine TZ_done (by kernel_rfl) ?_
                refine T_keepH [0, 1, 6, 8, 9, 10, 11, 12] [11, 15, 19] rfl rfl rfl rfl (by rw [hF]; rfl) ?_
                exact hj0 (s0.2.1 ++ [(w64 ((w64 (q40 * x75)) + (w64 (q37 * x84))))]) hm
            · refine ⟨_, rfl, ?_⟩
              refine TL_pure rfl rfl rfl rfl (op_load_one ag2 rfl rfl) ?_
              refine TL_nil ?_
              refine TZ_pure 10 (by kernel_rfl) rfl rfl rfl rfl rfl (op_mulW rfl rfl) ?_
              refine TZ_each [1, 18] (by kernel_rfl) rfl ?_
              refine ⟨?_, ?_⟩
              · refine ⟨_, rfl, ?_⟩
                refine TL_pure rfl rfl rfl rfl (op_load_one ag26 rfl rfl) ?_
                refine TL_nil ?_
                refine TZ_one 18 (by kernel_rfl) rfl ?_
                refine TL_pure rfl rfl rfl rfl (op_load_one ag2 rfl rfl) ?_
                refine TL_nil ?_
                refine TZ_pure 19 (by kernel_rfl) rfl rfl rfl rfl rfl (op_mulW rfl rfl) ?_
                refine TZ_pure 20 (by kernel_rfl) rfl rfl rfl rfl rfl (op_addW rfl rfl) ?_
                refine TZ_one 21 (by kernel_rfl) rfl ?_
                refine TL_buildSlice 291 (es := List.map a_i64 [(w64 ((w64 (q40 * x75)) + (w64 (q37 * x84))))]) el26 z2 rfl rfl rfl rfl rfl rfl rfl rfl rfl ?_
                refine TL_nil ?_
                refine TZ_one 22 (by kernel_rfl) rfl ?_
                refine TL_appendT (f := a_i64) (a := s0.2.1) (b := [(w64 ((w64 (q40 * x75)) + (w64 (q37 * x84))))]) el26 z2 rfl rfl rfl rfl rfl rfl rfl (capI_spec hq89) rfl rfl rfl rfl rfl ?_
                refine TL_nil ?_
                refine TZ_pure 23 (by kernel_rfl) rfl rfl rfl rfl rfl (op_fieldAddr fa91_1 rfl rfl) ?_
                refine TZ_one 24 (by kernel_rfl) rfl ?_
                refine TL_store_box sz26 rfl rfl rfl rfl rfl rfl rfl rfl rfl ?_
                refine TL_nil ?_
                refine TZ_done (by kernel_rfl) ?_
                refine T_keepH [0, 1, 6, 8, 9, 10, 11, 12] [11, 15, 19] rfl rfl rfl rfl (by rw [hF]; rfl) ?_
                exact hj0 (s0.2.1 ++ [(w64 ((w64 (q40 * x75)) + (w64 (q37 * x84))))]) hm
              · refine ⟨_, rfl, ?_⟩
                refine TL_pure rfl rfl rfl rfl (op_load_one ag2 rfl rfl) ?_
                refine TL_nil ?_
                refine TZ_pure 19 (by kernel_rfl) rfl rfl rfl rfl rfl (op_mulW rfl rfl) ?_
                refine TZ_pure 20 (by kernel_rfl) rfl rfl rfl rfl rfl (op_addW rfl rfl) ?_
                refine TZ_each [1, 21] (by kernel_rfl) rfl ?_
                refine ⟨?_, ?_⟩
                · refine ⟨_, rfl, ?_⟩
                  refine TL_pure rfl rfl rfl rfl (op_load_one ag26 rfl rfl) ?_
                  refine TL_nil ?_
                  refine TZ_one 21 (by kernel_rfl) rfl ?_
                  refine TL_buildSlice 293 (es := List.map a_i64 [(w64 ((w64 (q40 * x75)) + (w64 (q37 * x84))))]) el26 z2 rfl rfl rfl rfl rfl rfl rfl rfl rfl ?_
                  refine TL_nil ?_
                  refine TZ_one 22 (by kernel_rfl) rfl ?_
                  refine TL_appendT (f := a_i64) (a := s0.2.1) (b := [(w64 ((w64 (q40 * x75)) + (w64 (q37 * x84))))]) el26 z2 rfl rfl rfl rfl rfl rfl rfl (capI_spec hq89) rfl rfl rfl rfl rfl ?_
                  refine TL_nil ?_
                  refine TZ_pure 23 (by kernel_rfl) rfl rfl rfl rfl rfl (op_fieldAddr fa91_1 rfl rfl) ?_
                  refine TZ_one 24 (by kernel_rfl) rfl ?_
                  refine TL_store_box sz26 rfl rfl rfl rfl rfl rfl rfl rfl rfl ?_
                  refine TL_nil ?_
                  refine TZ_done (by kernel_rfl) ?_
                  refine T_keepH [0, 1, 6, 8, 9, 10, 11, 12] [11, 15, 19] rfl rfl rfl rfl (by rw [hF]; rfl) ?_
                  exact hj0 (s0.2.1 ++ [(w64 ((w64 (q40 * x75)) + (w64 (q37 * x84))))]) hm
                · refine ⟨_, rfl, ?_⟩
                  refine TL_buildSlice 292 (es := List.map a_i64 [(w64 ((w64 (q40 * x75)) + (w64 (q37 * x84))))]) el26 z2 rfl rfl rfl rfl rfl rfl rfl rfl rfl ?_
                  refine TL_nil ?_
                  refine TZ_pure 1 (by kernel_rfl) rfl rfl rfl rfl rfl (op_load_one ag26 rfl rfl) ?_
                  refine TZ_one 22 (by kernel_rfl) rfl ?_
                  refine TL_appendT (f := a_i64) (a := s0.2.1) (b := [(w64 ((w64 (q40 * x75)) + (w64 (q37 * x84))))]) el26 z2 rfl rfl rfl rfl rfl rfl rfl (capI_spec hq89) rfl rfl rfl rfl rfl ?_
                  refine TL_nil ?_
                  refine TZ_pure 23 (by kernel_rfl) rfl rfl rfl rfl rfl (op_fieldAddr fa91_1 rfl rfl) ?_
                  refine TZ_one 24 (by kernel_rfl) rfl ?_
                  refine TL_store_box sz26 rfl rfl rfl rfl rfl rfl rfl rfl rfl ?_
                  refine TL_nil ?_
                  refine TZ_done (by kernel_rfl) ?_
                  refine T_keepH [0, 1, 6, 8, 9, 10, 11, 12] [11, 15, 19] rfl rfl rfl rfl (by rw [hF]; rfl) ?_
                  exact hj0 (s0.2.1 ++ [(w64 ((w64 (q40 * x75)) + (w64 (q37 * x84))))]) hm
            · refine ⟨_, rfl, ?_⟩
              refine TL_pure rfl rfl rfl rfl (op_load_one ag2 rfl rfl) ?_
              refine TL_nil ?_
              refine TZ_pure 19 (by kernel_rfl) rfl rfl rfl rfl rfl (op_mulW rfl rfl) ?_
              refine TZ_each [1, 9] (by kernel_rfl) rfl ?_
              refine ⟨?_, ?_⟩
              · refine ⟨_, rfl, ?_⟩
                refine TL_pure rfl rfl rfl rfl (op_load_one ag26 rfl rfl) ?_
                refine TL_nil ?_
                refine TZ_one 9 (by kernel_rfl) rfl ?_
                refine TL_pure rfl rfl rfl rfl (op_load_one ag2 rfl rfl) ?_
                refine TL_nil ?_
                refine TZ_pure 10 (by kernel_rfl) rfl rfl rfl rfl rfl (op_mulW rfl rfl) ?_
                refine TZ_pure 20 (by kernel_rfl) rfl rfl rfl rfl rfl (op_addW rfl rfl) ?_
                refine TZ_one 21 (by kernel_rfl) rfl ?_
                refine TL_buildSlice 294 (es := List.map a_i64 [(w64 ((w64 (q40 * x75)) + (w64 (q37 * x84))))]) el26 z2 rfl rfl rfl rfl rfl rfl rfl rfl rfl ?_
                refine TL_nil ?_
                refine TZ_one 22 (by kernel_rfl) rfl ?_
                refine TL_appendT (f := a_i64) (a := s0.2.1) (b := [(w64 ((w64 (q40 * x75)) + (w64 (q37 * x84))))]) el26 z2 rfl rfl rfl rfl rfl rfl rfl (capI_spec hq89) rfl rfl rfl rfl rfl ?_
                refine TL_nil ?_
                refine TZ_pure 23 (by kernel_rfl) rfl rfl rfl rfl rfl (op_fieldAddr fa91_1 rfl rfl) ?_
                refine TZ_one 24 (by kernel_rfl) rfl ?_
                refine TL_store_box sz26 rfl rfl rfl rfl rfl rfl rfl rfl rfl ?_
                refine TL_nil ?_
                refine TZ_done (by kernel_rfl) ?_
                refine T_keepH [0, 1, 6, 8, 9, 10, 11, 12] [11, 15, 19] rfl rfl rfl rfl (by rw [hF]; rfl) ?_
                exact hj0 (s0.2.1 ++ [(w64 ((w64 (q40 * x75)) + (w64 (q37 * x84))))]) hm
              · refine ⟨_, rfl, ?_⟩
                refine TL_pure rfl rfl rfl rfl (op_load_one ag2 rfl rfl) ?_
                refine TL_nil ?_
                refine TZ_pure 10 (by kernel_rfl) rfl rfl rfl rfl rfl (op_mulW rfl rfl) ?_
                refine TZ_pure 20 (by kernel_rfl) rfl rfl rfl rfl rfl (op_addW rfl rfl) ?_
                refine TZ_each [1, 21] (by kernel_rfl) rfl ?_
                refine ⟨?_, ?_⟩
                · refine ⟨_, rfl, ?_⟩
                  refine TL_pure rfl rfl rfl rfl (op_load_one ag26 rfl rfl) ?_
                  refine TL_nil ?_
                  refine TZ_one 21 (by kernel_rfl) rfl ?_
                  refine TL_buildSlice 296 (es := List.map a_i64 [(w64 ((w64 (q40 * x75)) + (w64 (q37 * x84))))]) el26 z2 rfl rfl rfl rfl rfl rfl rfl rfl rfl ?_
                  refine TL_nil ?_
                  refine TZ_one 22 (by kernel_rfl) rfl ?_
                  refine TL_appendT (f := a_i64) (a := s0.2.1) (b := [(w64 ((w64 (q40 * x75)) + (w64 (q37 * x84))))]) el26 z2 rfl rfl rfl rfl rfl rfl rfl (capI_spec hq89) rfl rfl rfl rfl rfl ?_
                  refine TL_nil ?_
                  refine TZ_pure 23 (by kernel_rfl) rfl rfl rfl rfl rfl (op_fieldAddr fa91_1 rfl rfl) ?_
                  refine TZ_one 24 (by kernel_rfl) rfl ?_
                  refine TL_store_box sz26 rfl rfl rfl rfl rfl rfl rfl rfl rfl ?_
                  refine TL_nil ?_
                  refine TZ_done (by kernel_rfl) ?_
                  refine T_keepH [0, 1, 6, 8, 9, 10, 11, 12] [11, 15, 19] rfl rfl rfl rfl (by rw [hF]; rfl) ?_
                  exact hj0 (s0.2.1 ++ [(w64 ((w64 (q40 * x75)) + (w64 (q37 * x84))))]) hm
                · refine ⟨_, rfl, ?_⟩
                  refine TL_buildSlice 295 (es := List.map a_i64 [(w64 ((w64 (q40 * x75)) + (w64 (q37 * x84))))]) el26 z2 rfl rfl rfl rfl rfl rfl rfl rfl rfl ?_
                  refine TL_nil ?_
                  refine TZ_pure 1 (by kernel_rfl) rfl rfl rfl rfl rfl (op_load_one ag26 rfl rfl) ?_
                  refine TZ_one 22 (by kernel_rfl) rfl ?_
                  refine TL_appendT (f := a_i64) (a := s0.2.1) (b := [(w64 ((w64 (q40 * x75)) + (w64 (q37 * x84))))]) el26 z2 rfl rfl rfl rfl rfl rfl rfl (capI_spec hq89) rfl rfl rfl rfl rfl ?_
                  refine TL_nil ?_
                  refine TZ_pure 23 (by kernel_rfl) rfl rfl rfl rfl rfl (op_fieldAddr fa91_1 rfl rfl) ?_
                  refine TZ_one 24 (by kernel_rfl) rfl ?_
                  refine TL_store_box sz26 rfl rfl rfl rfl rfl rfl rfl rfl rfl ?_
                  refine TL_nil ?_
                  refine TZ_done (by kernel_rfl) ?_
                  refine T_keepH [0, 1, 6, 8, 9, 10, 11, 12] [11, 15, 19] rfl rfl rfl rfl (by rw [hF]; rfl) ?_
                  exact hj0 (s0.2.1 ++ [(w64 ((w64 (q40 * x75)) + (w64 (q37 * x84))))]) hm
        · refine ⟨_, rfl, ?_⟩
          refine TL_pure rfl rfl rfl rfl (op_load_one ag26 rfl rfl) ?_
          refine TL_nil ?_
          refine TZ_pure 17 (by kernel_rfl) rfl rfl rfl rfl rfl (op_indexT el26 rfl rfl hx84 rfl) ?_
          refine TZ_each [1, 6, 18] (by kernel_rfl) rfl ?_
          refine ⟨?_, ?_, ?_⟩
          · refine ⟨_, rfl, ?_⟩
            refine TL_pure rfl rfl rfl rfl (op_load_one ag26 rfl rfl) ?_
            refine TL_nil ?_
            refine TZ_each [6, 18] (by kernel_rfl) rfl ?_
            refine ⟨?_, ?_⟩
            · refine ⟨_, rfl, ?_⟩
              refine TL_pure rfl rfl rfl rfl (op_load_one ag26 rfl rfl) ?_
              refine TL_nil ?_
              refine TZ_pure 8 (by kernel_rfl) rfl rfl rfl rfl rfl (op_indexT el26 rfl rfl hx75 rfl) ?_
              refine TZ_each [9, 18] (by kernel_rfl) rfl ?_
              refine ⟨?_, ?_⟩
              · refine ⟨_, rfl, ?_⟩
                refine TL_pure rfl rfl rfl rfl (op_load_one ag2 rfl rfl) ?_
                refine TL_nil ?_
                refine TZ_pure 10 (by kernel_rfl) rfl rfl rfl rfl rfl (op_mulW rfl rfl) ?_
                refine TZ_one 18 (by kernel_rfl) rfl ?_
                refine TL_pure rfl rfl rfl rfl (op_load_one ag2 rfl rfl) ?_
                refine TL_nil ?_
                refine TZ_pure 19 (by kernel_rfl) rfl rfl rfl rfl rfl (op_mulW rfl rfl) ?_
                refine TZ_pure 20 (by kernel_rfl) rfl rfl rfl rfl rfl (op_addW rfl rfl) ?_
                refine TZ_one 21 (by kernel_rfl) rfl ?_
                refine TL_buildSlice 297 (es := List.map a_i64 [(w64 ((w64 (q40 * x75)) + (w64 (q37 * x84))))]) el26 z2 rfl rfl rfl rfl rfl rfl rfl rfl rfl ?_
                refine TL_nil ?_
                refine TZ_one 22 (by kernel_rfl) rfl ?_
                refine TL_appendT (f := a_i64) (a := s0.2.1) (b := [(w64 ((w64 (q40 * x75)) + (w64 (q37 * x84))))]) el26 z2 rfl rfl rfl rfl rfl rfl rfl (capI_spec hq89) rfl rfl rfl rfl rfl ?_
                refine TL_nil ?_
                refine TZ_pure 23 (by kernel_rfl) rfl rfl rfl rfl rfl (op_fieldAddr fa91_1 rfl rfl) ?_
                refine TZ_one 24 (by kernel_rfl) rfl ?_
                refine TL_store_box sz26 rfl rfl rfl rfl rfl rfl rfl rfl rfl ?_
                refine TL_nil ?_
                refine TZ_done (by kernel_rfl) ?_
                refine T_keepH [0, 1, 6, 8, 9, 10, 11, 12] [11, 15, 19] rfl rfl rfl rfl (by rw [hF]; rfl) ?_
                exact hj0 (s0.2.1 ++ [(w64 ((w64 (q40 * x75)) + (w64 (q37 * x84))))]) hm
              · refine ⟨_, rfl, ?_⟩
                refine TL_pure rfl rfl rfl rfl (op_load_one ag2 rfl rfl) ?_
                refine TL_nil ?_
                refine TZ_pure 19 (by kernel_rfl) rfl rfl rfl rfl rfl (op_mulW rfl rfl) ?_
                refine TZ_one 9 (by kernel_rfl) rfl ?_
                refine TL_pure rfl rfl rfl rfl (op_load_one ag2 rfl rfl) ?_
                refine TL_nil ?_
                refine TZ_pure 10 (by kernel_rfl) rfl rfl rfl rfl rfl (op_mulW rfl rfl) ?_
                refine TZ_pure 20 (by kernel_rfl) rfl rfl rfl rfl rfl (op_addW rfl rfl) ?_
                refine TZ_one 21 (by kernel_rfl) rfl ?_
                refine TL_buildSlice 298 (es := List.map a_i64 [(w64 ((w64 (q40 * x75)) + (w64 (q37 * x84))))]) el26 z2 rfl rfl rfl rfl rfl rfl rfl rfl rfl ?_
                refine TL_nil ?_
                refine TZ_one 22 (by kernel_rfl) rfl ?_
                refine TL_appendT (f := a_i64) (a := s0.2.1) (b := [(w64 ((w64 (q40 * x75)) + (w64 (q37 * x84))))]) el26 z2 rfl rfl rfl rfl rfl rfl rfl (capI_spec hq89) rfl rfl rfl rfl rfl ?_
                refine TL_nil ?_
                refine TZ_pure 23 (by kernel_rfl) rfl rfl rfl rfl rfl (op_fieldAddr fa91_1 rfl rfl) ?_
                refine TZ_one 24 (by kernel_rfl) rfl ?_
                refine TL_store_box sz26 rfl rfl rfl rfl rfl rfl rfl rfl rfl ?_
                refine TL_nil ?_
                refine TZ_done (by kernel_rfl) ?_
                refine T_keepH [0, 1, 6, 8, 9, 10, 11, 12] [11, 15, 19] rfl rfl rfl rfl (by rw [hF]; rfl) ?_
                exact hj0 (s0.2.1 ++ [(w64 ((w64 (q40 * x75)) + (w64 (q37 * x84))))]) hm
            · refine ⟨_, rfl, ?_⟩
              refine TL_pure rfl rfl rfl rfl (op_load_one ag2 rfl rfl) ?_
              refine TL_nil ?_
              refine TZ_pure 19 (by kernel_rfl) rfl rfl rfl rfl rfl (op_mulW rfl rfl) ?_
              refine TZ_one 6 (by kernel_rfl) rfl ?_
              refine TL_pure rfl rfl rfl rfl (op_load_one ag26 rfl rfl) ?_
              refine TL_nil ?_
              refine TZ_pure 8 (by kernel_rfl) rfl rfl rfl rfl rfl (op_indexT el26 rfl rfl hx75 rfl) ?_
              refine TZ_one 9 (by kernel_rfl) rfl ?_
              refine TL_pure rfl rfl rfl rfl (op_load_one ag2 rfl rfl) ?_
              refine TL_nil ?_
              refine TZ_pure 10 (by kernel_rfl) rfl rfl rfl rfl rfl (op_mulW rfl rfl) ?_
              refine TZ_pure 20 (by kernel_rfl) rfl rfl rfl rfl rfl (op_addW rfl rfl) ?_
              refine TZ_one 21 (by kernel_rfl) rfl ?_
              refine TL_buildSlice 299 (es := List.map a_i64 [(w64 ((w64 (q40 * x75)) + (w64 (q37 * x84))))]) el26 z2 rfl rfl rfl rfl rfl rfl rfl rfl rfl ?_
              refine TL_nil ?_
              refine TZ_one 22 (by kernel_rfl) rfl ?_
              refine TL_appendT (f := a_i64) (a := s0.2.1) (b := [(w64 ((w64 (q40 * x75)) + (w64 (q37 * x84))))]) el26 z2 rfl rfl rfl rfl rfl rfl rfl (capI_spec hq89) rfl rfl rfl rfl rfl ?_
              refine TL_nil ?_
              refine TZ_pure 23 (by kernel_rfl) rfl rfl rfl rfl rfl (op_fieldAddr fa91_1 rfl rfl) ?_
              refine TZ_one 24 (by kernel_rfl) rfl ?_
              refine TL_store_box sz26 rfl rfl rfl rfl rfl rfl rfl rfl rfl ?_
              refine TL_nil ?_
              refine TZ_done (by kernel_rfl) ?_
              refine T_keepH [0, 1, 6, 8, 9, 10, 11, 12] [11, 15, 19] rfl rfl rfl rfl (by rw [hF]; rfl) ?_
              exact hj0 (s0.2.1 ++ [(w64 ((w64 (q40 * x75)) + (w64 (q37 * x84))))]) hm
          · refine ⟨_, rfl, ?_⟩
            refine TL_pure rfl rfl rfl rfl (op_load_one ag26 rfl rfl) ?_
            refine TL_nil ?_
            refine TZ_pure 8 (by kernel_rfl) rfl rfl rfl rfl rfl (op_indexT el26 rfl rfl hx75 rfl) ?_
            refine TZ_each [1, 9, 18] (by kernel_rfl) rfl ?_
            refine ⟨?_, ?_, ?_⟩
            · refine ⟨_, rfl, ?_⟩
              refine TL_pure rfl rfl rfl rfl (op_load_one ag26 rfl rfl) ?_
              refine TL_nil ?_
              refine TZ_each [9, 18] (by kernel_rfl) rfl ?_
              refine ⟨?_, ?_⟩
              · refine ⟨_, rfl, ?_⟩
                refine TL_pure rfl rfl rfl rfl (op_load_one ag2 rfl rfl) ?_
                refine TL_nil ?_
                refine TZ_pure 10 (by kernel_rfl) rfl rfl rfl rfl rfl (op_mulW rfl rfl) ?_
                refine TZ_one 18 (by kernel_rfl) rfl ?_
                refine TL_pure rfl rfl rfl rfl (op_load_one ag2 rfl rfl) ?_
                refine TL_nil ?_
                refine TZ_pure 19 (by kernel_rfl) rfl rfl rfl rfl rfl (op_mulW rfl rfl) ?_
                refine TZ_pure 20 (by kernel_rfl) rfl rfl rfl rfl rfl (op_addW rfl rfl) ?_
                refine TZ_one 21 (by kernel_rfl) rfl ?_
                refine TL_buildSlice 300 (es := List.map a_i64 [(w64 ((w64 (q40 * x75)) + (w64 (q37 * x84))))]) el26 z2 rfl rfl rfl rfl rfl rfl rfl rfl rfl ?_
                refine TL_nil ?_
                refine TZ_one 22 (by kernel_rfl) rfl ?_
                refine TL_appendT (f := a_i64) (a := s0.2.1) (b := [(w64 ((w64 (q40 * x75)) + (w64 (q37 * x84))))]) el26 z2 rfl rfl rfl rfl rfl rfl rfl (capI_spec hq89) rfl rfl rfl rfl rfl ?_
                refine TL_nil ?_
                refine TZ_pure 23 (by kernel_rfl) rfl rfl rfl rfl rfl (op_fieldAddr fa91_1 rfl rfl) ?_
                refine TZ_one 24 (by kernel_rfl) rfl ?_
                refine TL_store_box sz26 rfl rfl rfl rfl rfl rfl rfl rfl rfl ?_
                refine TL_nil ?_
                refine TZ_done (by kernel_rfl) ?_
                refine T_keepH [0, 1, 6, 8, 9, 10, 11, 12] [11, 15, 19] rfl rfl rfl rfl (by rw [hF]; rfl) ?_
                exact hj0 (s0.2.1 ++ [(w64 ((w64 (q40 * x75)) + (w64 (q37 * x84))))]) hm
              · refine ⟨_, rfl, ?_⟩
                refine TL_pure rfl rfl rfl rfl (op_load_one ag2 rfl rfl) ?_
                refine TL_nil ?_
                refine TZ_pure 19 (by kernel_rfl) rfl rfl rfl rfl rfl (op_mulW rfl rfl) ?_
                refine TZ_one 9 (by kernel_rfl) rfl ?_
                refine TL_pure rfl rfl rfl rfl (op_load_one ag2 rfl rfl) ?_
                refine TL_nil ?_
                refine TZ_pure 10 (by kernel_rfl) rfl rfl rfl rfl rfl (op_mulW rfl rfl) ?_
                refine TZ_pure 20 (by kernel_rfl) rfl rfl rfl rfl rfl (op_addW rfl rfl) ?_
                refine TZ_one 21 (by kernel_rfl) rfl ?_
                refine TL_buildSlice 301 (es := List.map a_i64 [(w64 ((w64 (q40 * x75)) + (w64 (q37 * x84))))]) el26 z2 rfl rfl rfl rfl rfl rfl rfl rfl rfl ?_
                refine TL_nil ?_
                refine TZ_one 22 (by kernel_rfl) rfl ?_
                refine TL_appendT (f := a_i64) (a := s0.2.1) (b := [(w64 ((w64 (q40 * x75)) + (w64 (q37 * x84))))]) el26 z2 rfl rfl rfl rfl rfl rfl rfl (capI_spec hq89) rfl rfl rfl rfl rfl ?_
                refine TL_nil ?_
                refine TZ_pure 23 (by kernel_rfl) rfl rfl rfl rfl rfl (op_fieldAddr fa91_1 rfl rfl) ?_
                refine TZ_one 24 (by kernel_rfl) rfl ?_
                refine TL_store_box sz26 rfl rfl rfl rfl rfl rfl rfl rfl rfl ?_
                refine TL_nil ?_
                refine TZ_done (by kernel_rfl) ?_
                refine T_keepH [0, 1, 6, 8, 9, 10, 11, 12] [11, 15, 19] rfl rfl rfl rfl (by rw [hF]; rfl) ?_
                exact hj0 (s0.2.1 ++ [(w64 ((w64 (q40 * x75)) + (w64 (q37 * x84))))]) hm
            · refine ⟨_, rfl, ?_⟩
              refine TL_pure rfl rfl rfl rfl (op_load_one ag2 rfl rfl) ?_
              refine TL_nil ?_
              refine TZ_pure 10 (by kernel_rfl) rfl rfl rfl rfl rfl (op_mulW rfl rfl) ?_
              refine TZ_each [1, 18] (by kernel_rfl) rfl ?_
              refine ⟨?_, ?_⟩
              · refine ⟨_, rfl, ?_⟩
                refine TL_pure rfl rfl rfl rfl (op_load_one ag26 rfl rfl) ?_
                refine TL_nil ?_
                refine TZ_one 18 (by kernel_rfl) rfl ?_
                refine TL_pure rfl rfl rfl rfl (op_load_one ag2 rfl rfl) ?_
                refine TL_nil ?_
                refine TZ_pure 19 (by kernel_rfl) rfl rfl rfl rfl rfl (op_mulW rfl rfl) ?_
                refine TZ_pure 20 (by kernel_rfl) rfl rfl rfl rfl rfl (op_addW rfl rfl) ?_
                refine TZ_one 21 (by kernel_rfl) rfl ?_
                refine TL_buildSlice 302 (es := List.map a_i64 [(w64 ((w64 (q40 * x75)) + (w64 (q37 * x84))))]) el26 z2 rfl rfl rfl rfl rfl rfl rfl rfl rfl ?_
                refine TL_nil ?_
                refine TZ_one 22 (by kernel_rfl) rfl ?_
                refine TL_appendT (f := a_i64) (a := s0.2.1) (b := [(w64 ((w64 (q40 * x75)) + (w64 (q37 * x84))))]) el26 z2 rfl rfl rfl rfl rfl rfl rfl (capI_spec hq89) rfl rfl rfl rfl rfl ?_
                refine TL_nil ?_
                refine TZ_pure 23 (by kernel_rfl) rfl rfl rfl rfl rfl (op_fieldAddr fa91_1 rfl rfl) ?_
                refine TZ_one 24 (by kernel_rfl) rfl ?_
                refine TL_store_box sz26 rfl rfl rfl rfl rfl rfl rfl rfl rfl ?_
                refine TL_nil ?_
                refine TZ_done (by kernel_rfl) ?_
                refine T_keepH [0, 1, 6, 8, 9, 10, 11, 12] [11, 15, 19] rfl rfl rfl rfl (by rw [hF]; rfl) ?_
                exact hj0 (s0.2.1 ++ [(w64 ((w64 (q40 * x75)) + (w64 (q37 * x84))))]) hm
              · refine ⟨_, rfl, ?_⟩
                refine TL_pure rfl rfl rfl rfl (op_load_one ag2 rfl rfl) ?_
                refine TL_nil ?_
                refine TZ_pure 19 (by kernel_rfl) rfl rfl rfl rfl rfl (op_mulW rfl rfl) ?_
                refine TZ_pure 20 (by kernel_rfl) rfl rfl rfl rfl rfl (op_addW rfl rfl) ?_
                refine TZ_each [1, 21] (by kernel_rfl) rfl ?_
                refine ⟨?_, ?_⟩
                · refine ⟨_, rfl, ?_⟩
                  refine TL_pure rfl rfl rfl rfl (op_load_one ag26 rfl rfl) ?_
                  refine TL_nil ?_
                  refine TZ_one 21 (by kernel_rfl) rfl ?_
                  refine TL_buildSlice 304 (es := List.map a_i64 [(w64 ((w64 (q40 * x75)) + (w64 (q37 * x84))))]) el26 z2 rfl rfl rfl rfl rfl rfl rfl rfl rfl ?_
                  refine TL_nil ?_
                  refine TZ_one 22 (by kernel_rfl) rfl ?_
                  refine TL_appendT (f := a_i64) (a := s0.2.1) (b := [(w64 ((w64 (q40 * x75)) + (w64 (q37 * x84))))]) el26 z2 rfl rfl rfl rfl rfl rfl rfl (capI_spec hq89) rfl rfl rfl rfl rfl ?_
                  refine TL_nil ?_
                  refine TZ_pure 23 (by kernel_rfl) rfl rfl rfl rfl rfl (op_fieldAddr fa91_1 rfl rfl) ?_
                  refine TZ_one 24 (by kernel_rfl) rfl ?_
                  refine TL_store_box sz26 rfl rfl rfl rfl rfl rfl rfl rfl rfl ?_
                  refine TL_nil ?_
                  refine TZ_done (by kernel_rfl) ?_
                  refine T_keepH [0, 1, 6, 8, 9, 10, 11, 12] [11, 15, 19] rfl rfl rfl rfl (by rw [hF]; rfl) ?_
                  exact hj0 (s0.2.1 ++ [(w64 ((w64 (q40 * x75)) + (w64 (q37 * x84))))]) hm
                · refine ⟨_, rfl, ?_⟩
                  refine TL_buildSlice 303 (es := List.map a_i64 [(w64 ((w64 (q40 * x75)) + (w64 (q37 * x84))))]) el26 z2 rfl rfl rfl rfl rfl rfl rfl rfl rfl ?_
                  refine TL_nil ?_
                  refine TZ_pure 1 (by kernel_rfl) rfl rfl rfl rfl rfl (op_load_one ag26 rfl rfl) ?_
                  refine TZ_one 22 (by kernel_rfl) rfl ?_
                  refine TL_appendT (f := a_i64) (a := s0.2.1) (b := [(w64 ((w64 (q40 * x75)) + (w64 (q37 * x84))))]) el26 z2 rfl rfl rfl rfl rfl rfl rfl (capI_spec hq89) rfl rfl rfl rfl rfl ?_
                  refine TL_nil ?_
                  refine TZ_pure 23 (by kernel_rfl) rfl rfl rfl rfl rfl (op_fieldAddr fa91_1 rfl rfl) ?_
                  refine TZ_one 24 (by kernel_rfl) rfl ?_
                  refine TL_store_box sz26 rfl rfl rfl rfl rfl rfl rfl rfl rfl ?_
                  refine TL_nil ?_
                  refine TZ_done (by kernel_rfl) ?_
                  refine T_keepH [0, 1, 6, 8, 9, 10, 11, 12] [11, 15, 19] rfl rfl rfl rfl (by rw [hF]; rfl) ?_
                  exact hj0 (s0.2.1 ++ [(w64 ((w64 (q40 * x75)) + (w64 (q37 * x84))))]) hm
            · refine ⟨_, rfl, ?_⟩
              refine TL_pure rfl rfl rfl rfl (op_load_one ag2 rfl rfl) ?_
              refine TL_nil ?_
              refine TZ_pure 19 (by kernel_rfl) rfl rfl rfl rfl rfl (op_mulW rfl rfl) ?_
              refine TZ_each [1, 9] (by kernel_rfl) rfl ?_
              refine ⟨?_, ?_⟩
              · refine ⟨_, rfl, ?_⟩
                refine TL_pure rfl rfl rfl rfl (op_load_one ag26 rfl rfl) ?_
                refine TL_nil ?_
                refine TZ_one 9 (by kernel_rfl) rfl ?_
                refine TL_pure rfl rfl rfl rfl (op_load_one ag2 rfl rfl) ?_
                refine TL_nil ?_
                refine TZ_pure 10 (by kernel_rfl) rfl rfl rfl rfl rfl (op_mulW rfl rfl) ?_
                refine TZ_pure 20 (by kernel_rfl) rfl rfl rfl rfl rfl (op_addW rfl rfl) ?_
                refine TZ_one 21 (by kernel_rfl) rfl ?_
                refine TL_buildSlice 305 (es := List.map a_i64 [(w64 ((w64 (q40 * x75)) + (w64 (q37 * x84))))]) el26 z2 rfl rfl rfl rfl rfl rfl rfl rfl rfl ?_
                refine TL_nil ?_
                refine TZ_one 22 (by kernel_rfl) rfl ?_
                refine TL_appendT (f := a_i64) (a := s0.2.1) (b := [(w64 ((w64 (q40 * x75)) + (w64 (q37 * x84))))]) el26 z2 rfl rfl rfl rfl rfl rfl rfl (capI_spec hq89) rfl rfl rfl rfl rfl ?_
                refine TL_nil ?_
                refine TZ_pure 23 (by kernel_rfl) rfl rfl rfl rfl rfl (op_fieldAddr fa91_1 rfl rfl) ?_
                refine TZ_one 24 (by kernel_rfl) rfl ?_
                refine TL_store_box sz26 rfl rfl rfl rfl rfl rfl rfl rfl rfl ?_
                refine TL_nil ?_
                refine TZ_done (by kernel_rfl) ?_
                refine T_keepH [0, 1, 6, 8, 9, 10, 11, 12] [11, 15, 19] rfl rfl rfl rfl (by rw [hF]; rfl) ?_
                exact hj0 (s0.2.1 ++ [(w64 ((w64 (q40 * x75)) + (w64 (q37 * x84))))]) hm
              · refine ⟨_, rfl, ?_⟩
                refine TL_pure rfl rfl rfl rfl (op_load_one ag2 rfl rfl) ?_
                refine TL_nil ?_
                refine TZ_pure 10 (by kernel_rfl) rfl rfl rfl rfl rfl (op_mulW rfl rfl) ?_
                refine TZ_pure 20 (by kernel_rfl) rfl rfl rfl rfl rfl (op_addW rfl rfl) ?_
                refine TZ_each [1, 21] (by kernel_rfl) rfl ?_
                refine ⟨?_, ?_⟩
                · refine ⟨_, rfl, ?_⟩
                  refine TL_pure rfl rfl rfl rfl (op_load_one ag26 rfl rfl) ?_
                  refine TL_nil ?_
                  refine TZ_one 21 (by kernel_rfl) rfl ?_
                  refine TL_buildSlice 307 (es := List.map a_i64 [(w64 ((w64 (q40 * x75)) + (w64 (q37 * x84))))]) el26 z2 rfl rfl rfl rfl rfl rfl rfl rfl rfl ?_
                  refine TL_nil ?_
                  refine TZ_one 22 (by kernel_rfl) rfl ?_
                  refine TL_appendT (f := a_i64) (a := s0.2.1) (b := [(w64 ((w64 (q40 * x75)) + (w64 (q37 * x84))))]) el26 z2 rfl rfl rfl rfl rfl rfl rfl (capI_spec hq89) rfl rfl rfl rfl rfl ?_
                  refine TL_nil ?_
                  refine TZ_pure 23 (by kernel_rfl) rfl rfl rfl rfl rfl (op_fieldAddr fa91_1 rfl rfl) ?_
                  refine TZ_one 24 (by kernel_rfl) rfl ?_
                  refine TL_store_box sz26 rfl rfl rfl rfl rfl rfl rfl rfl rfl ?_
                  refine TL_nil ?_
                  refine TZ_done (by kernel_rfl) ?_
                  refine T_keepH [0, 1, 6, 8, 9, 10, 11, 12] [11, 15, 19] rfl rfl rfl rfl (by rw [hF]; rfl) ?_
                  exact hj0 (s0.2.1 ++ [(w64 ((w64 (q40 * x75)) + (w64 (q37 * x84))))]) hm
                · refine ⟨_, rfl, ?_⟩
                  refine TL_buildSlice 306 (es := List.map a_i64 [(w64 ((w64 (q40 * x75)) + (w64 (q37 * x84))))]) el26 z2 rfl rfl rfl rfl rfl rfl rfl rfl rfl ?_
                  refine TL_nil ?_
                  refine TZ_pure 1 (by kernel_rfl) rfl rfl rfl rfl rfl (op_load_one ag26 rfl rfl) ?_
                  refine TZ_one 22 (by kernel_rfl) rfl ?_
                  refine TL_appendT (f := a_i64) (a := s0.2.1) (b := [(w64 ((w64 (q40 * x75)) + (w64 (q37 * x84))))]) el26 z2 rfl rfl rfl rfl rfl rfl rfl (capI_spec hq89) rfl rfl rfl rfl rfl ?_
                  refine TL_nil ?_
                  refine TZ_pure 23 (by kernel_rfl) rfl rfl rfl rfl rfl (op_fieldAddr fa91_1 rfl rfl) ?_
                  refine TZ_one 24 (by kernel_rfl) rfl ?_
                  refine TL_store_box sz26 rfl rfl rfl rfl rfl rfl rfl rfl rfl ?_
                  refine TL_nil ?_
                  refine TZ_done (by kernel_rfl) ?_
                  refine T_keepH [0, 1, 6, 8, 9, 10, 11, 12] [11, 15, 19] rfl rfl rfl rfl (by rw [hF]; rfl) ?_
                  exact hj0 (s0.2.1 ++ [(w64 ((w64 (q40 * x75)) + (w64 (q37 * x84))))]) hm
          · refine ⟨_, rfl, ?_⟩
            refine TL_pure rfl rfl rfl rfl (op_load_one ag2 rfl rfl) ?_
            refine TL_nil ?_
            refine TZ_pure 19 (by kernel_rfl) rfl rfl rfl rfl rfl (op_mulW rfl rfl) ?_
            refine TZ_each [1, 6] (by kernel_rfl) rfl ?_
            refine ⟨?_, ?_⟩
            · refine ⟨_, rfl, ?_⟩
              refine TL_pure rfl rfl rfl rfl (op_load_one ag26 rfl rfl) ?_
              refine TL_nil ?_
              refine TZ_one 6 (by kernel_rfl) rfl ?_
              refine TL_pure rfl rfl rfl rfl (op_load_one ag26 rfl rfl) ?_
              refine TL_nil ?_
              refine TZ_pure 8 (by kernel_rfl) rfl rfl rfl rfl rfl (op_indexT el26 rfl rfl hx75 rfl) ?_
              refine TZ_one 9 (by kernel_rfl) rfl ?_
              refine TL_pure rfl rfl rfl rfl (op_load_one ag2 rfl rfl) ?_
              refine TL_nil ?_
              refine TZ_pure 10 (by kernel_rfl) rfl rfl rfl rfl rfl (op_mulW rfl rfl) ?_
              refine TZ_pure 20 (by kernel_rfl) rfl rfl rfl rfl rfl (op_addW rfl rfl) ?_
              refine TZ_one 21 (by kernel_rfl) rfl ?_
              refine TL_buildSlice 308 (es := List.map a_i64 [(w64 ((w64 (q40 * x75)) + (w64 (q37 * x84))))]) el26 z2 rfl rfl rfl rfl rfl rfl rfl rfl rfl ?_
              refine TL_nil ?_
              refine TZ_one 22 (by kernel_rfl) rfl ?_
              refine TL_appendT (f := a_i64) (a := s0.2.1) (b := [(w64 ((w64 (q40 * x75)) + (w64 (q37 * x84))))]) el26 z2 rfl rfl rfl rfl rfl rfl rfl (capI_spec hq89) rfl rfl rfl rfl rfl ?_
              refine TL_nil ?_
              refine TZ_pure 23 (by kernel_rfl) rfl rfl rfl rfl rfl (op_fieldAddr fa91_1 rfl rfl) ?_
              refine TZ_one 24 (by kernel_rfl) rfl ?_
              refine TL_store_box sz26 rfl rfl rfl rfl rfl rfl rfl rfl rfl ?_
              refine TL_nil ?_
              refine TZ_done (by kernel_rfl) ?_
              refine T_keepH [0, 1, 6, 8, 9, 10, 11, 12] [11, 15, 19] rfl rfl rfl rfl (by rw [hF]; rfl) ?_
              exact hj0 (s0.2.1 ++ [(w64 ((w64 (q40 * x75)) + (w64 (q37 * x84))))]) hm
            · refine ⟨_, rfl, ?_⟩
              refine TL_pure rfl rfl rfl rfl (op_load_one ag26 rfl rfl) ?_
              refine TL_nil ?_
              refine TZ_pure 8 (by kernel_rfl) rfl rfl rfl rfl rfl (op_indexT el26 rfl rfl hx75 rfl) ?_
              refine TZ_each [1, 9] (by kernel_rfl) rfl ?_
              refine ⟨?_, ?_⟩
              · refine ⟨_, rfl, ?_⟩
                refine TL_pure rfl rfl rfl rfl (op_load_one ag26 rfl rfl) ?_
                refine TL_nil ?_
                refine TZ_one 9 (by kernel_rfl) rfl ?_
                refine TL_pure rfl rfl rfl rfl (op_load_one ag2 rfl rfl) ?_
                refine TL_nil ?_
                refine TZ_pure 10 (by kernel_rfl) rfl rfl rfl rfl rfl (op_mulW rfl rfl) ?_
                refine TZ_pure 20 (by kernel_rfl) rfl rfl rfl rfl rfl (op_addW rfl rfl) ?_
                refine TZ_one 21 (by kernel_rfl) rfl ?_
                refine TL_buildSlice 309 (es := List.map a_i64 [(w64 ((w64 (q40 * x75)) + (w64 (q37 * x84))))]) el26 z2 rfl rfl rfl rfl rfl rfl rfl rfl rfl ?_
                refine TL_nil ?_
                refine TZ_one 22 (by kernel_rfl) rfl ?_
                refine TL_appendT (f := a_i64) (a := s0.2.1) (b := [(w64 ((w64 (q40 * x75)) + (w64 (q37 * x84))))]) el26 z2 rfl rfl rfl rfl rfl rfl rfl (capI_spec hq89) rfl rfl rfl rfl rfl ?_
                refine TL_nil ?_
                refine TZ_pure 23 (by kernel_rfl) rfl rfl rfl rfl rfl (op_fieldAddr fa91_1 rfl rfl) ?_
                refine TZ_one 24 (by kernel_rfl) rfl ?_
                refine TL_store_box sz26 rfl rfl rfl rfl rfl rfl rfl rfl rfl ?_
                refine TL_nil ?_
                refine TZ_done (by kernel_rfl) ?_
                refine T_keepH [0, 1, 6, 8, 9, 10, 11, 12] [11, 15, 19] rfl rfl rfl rfl (by rw [hF]; rfl) ?_
                exact hj0 (s0.2.1 ++ [(w64 ((w64 (q40 * x75)) + (w64 (q37 * x84))))]) hm
              · refine ⟨_, rfl, ?_⟩
                refine TL_pure rfl rfl rfl rfl (op_load_one ag2 rfl rfl) ?_
                refine TL_nil ?_
                refine TZ_pure 10 (by kernel_rfl) rfl rfl rfl rfl rfl (op_mulW rfl rfl) ?_
                refine TZ_pure 20 (by kernel_rfl) rfl rfl rfl rfl rfl (op_addW rfl rfl) ?_
                refine TZ_each [1, 21] (by kernel_rfl) rfl ?_
                refine ⟨?_, ?_⟩
                · refine ⟨_, rfl, ?_⟩
                  refine TL_pure rfl rfl rfl rfl (op_load_one ag26 rfl rfl) ?_
                  refine TL_nil ?_
                  refine TZ_one 21 (by kernel_rfl) rfl ?_
                  refine TL_buildSlice 311 (es := List.map a_i64 [(w64 ((w64 (q40 * x75)) + (w64 (q37 * x84))))]) el26 z2 rfl rfl rfl rfl rfl rfl rfl rfl rfl ?_
                  refine TL_nil ?_
                  refine TZ_one 22 (by kernel_rfl) rfl ?_
                  refine TL_appendT (f := a_i64) (a := s0.2.1) (b := [(w64 ((w64 (q40 * x75)) + (w64 (q37 * x84))))]) el26 z2 rfl rfl rfl rfl rfl rfl rfl (capI_spec hq89) rfl rfl rfl rfl rfl ?_
                  refine TL_nil ?_
                  refine TZ_pure 23 (by kernel_rfl) rfl rfl rfl rfl rfl (op_fieldAddr fa91_1 rfl rfl) ?_
                  refine TZ_one 24 (by kernel_rfl) rfl ?_
                  refine TL_store_box sz26 rfl rfl rfl rfl rfl rfl rfl rfl rfl ?_
                  refine TL_nil ?_
                  refine TZ_done (by kernel_rfl) ?_
                  refine T_keepH [0, 1, 6, 8, 9, 10, 11, 12] [11, 15, 19] rfl rfl rfl rfl (by rw [hF]; rfl) ?_
                  exact hj0 (s0.2.1 ++ [(w64 ((w64 (q40 * x75)) + (w64 (q37 * x84))))]) hm
                · refine ⟨_, rfl, ?_⟩
                  refine TL_buildSlice 310 (es := List.map a_i64 [(w64 ((w64 (q40 * x75)) + (w64 (q37 * x84))))]) el26 z2 rfl rfl rfl rfl rfl rfl rfl rfl rfl ?_
                  refine TL_nil ?_
                  refine TZ_pure 1 (by kernel_rfl) rfl rfl rfl rfl rfl (op_load_one ag26 rfl rfl) ?_
                  refine TZ_one 22 (by kernel_rfl) rfl ?_
                  refine TL_appendT (f := a_i64) (a := s0.2.1) (b := [(w64 ((w64 (q40 * x75)) + (w64 (q37 * x84))))]) el26 z2 rfl rfl rfl rfl rfl rfl rfl (capI_spec hq89) rfl rfl rfl rfl rfl ?_
                  refine TL_nil ?_
                  refine TZ_pure 23 (by kernel_rfl) rfl rfl rfl rfl rfl (op_fieldAddr fa91_1 rfl rfl) ?_
                  refine TZ_one 24 (by kernel_rfl) rfl ?_
                  refine TL_store_box sz26 rfl rfl rfl rfl rfl rfl rfl rfl rfl ?_
                  refine TL_nil ?_
                  refine TZ_done (by kernel_rfl) ?_
                  refine T_keepH [0, 1, 6, 8, 9, 10, 11, 12] [11, 15, 19] rfl rfl rfl rfl (by rw [hF]; rfl) ?_
                  exact hj0 (s0.2.1 ++ [(w64 ((w64 (q40 * x75)) + (w64 (q37 * x84))))]) hm
    · replace hm := condF hq hm
      refine T_keepH [0, 1, 6, 8, 9, 10, 11] [11, 15, 19] rfl rfl rfl rfl (by rw [hF]; rfl) ?_
      refine T_exit ?_
      obtain rfl := someI hm
      have hn := CtlOK_out hc0
      exact hx0 (s0.1, s0.2.1) hn
end Go.Mod
