import Derived.Test.YtejcidjaedahhaaDoorGh
namespace Go.Mod
open Go Go.AM Go.Proofs
set_option linter.unusedVariables false
set_option linter.unusedSimpArgs false
set_option maxRecDepth 100000
set_option maxHeartbeats 8000000
theorem c_impl_ValidPolicy (p0 : Policy) (out : Bool) (hm : m_impl_ValidPolicy p0 = some out) : ACall Tryd.prog 31 [.agg [.sl 1 (List.map aLa_i64 p0.Next)]] [] (.bool out) [] := by
  refine ACall.intro Tryd.func31 rfl Tryd.ntmps31 rfl (fun F hF => ?_)
  unfold m_impl_ValidPolicy at hm
  refine T_seq ?_
  refine T_region ?_
  refine TL_box 11 rfl rfl rfl rfl rfl rfl rfl ?_
  refine TL_pure rfl rfl rfl rfl (op_assign rfl) ?_
  refine TL_nil ?_
  refine T_seq ?_
  refine T_region ?_
  refine TL_pure rfl rfl rfl rfl (op_fieldAddr fa26_0 rfl rfl) ?_
  refine TL_pure rfl rfl rfl rfl (op_load_one ag24 rfl rfl) ?_
  refine TL_pure rfl rfl rfl rfl (op_lenT Tryd.underlying24 rfl (List.length_map _)) ?_
  refine TL_fact (fun _ _ _ hr => RelP.slLen (i := 7) rfl hr) (fun hlen8 => ?_)
  rw [List.length_map] at hlen8
  obtain ⟨r9, hr9, hm⟩ := bindS hm
  refine TL_callF (ACall.F (F := F) (c_impl_size (p0.Next.length : Int) r9 hr9)) Tryd.call59 rfl rfl rfl rfl rfl ?_
  refine TL_pure rfl rfl rfl rfl (op_assign rfl) ?_
  refine TL_nil ?_
  refine T_seq ?_
  refine T_seq ?_
  refine T_region ?_
  refine TL_pure rfl rfl rfl rfl (op_move rfl) ?_
  obtain ⟨r11, hr11, hm⟩ := bindS hm
  refine TL_callF (ACall.F (F := F) (c_impl_within r9 (1 : Int) (12 : Int) r11 hr11)) Tryd.call60 rfl rfl rfl rfl rfl ?_
  refine TL_pure rfl rfl rfl rfl (op_not rfl) ?_
  refine TL_nil ?_
  refine T_cond rfl (fun hq => ?_) (fun hq => ?_)
  · replace hm := condT hq hm
    refine T_seq ?_
    refine T_region ?_
    refine TL_pure rfl rfl rfl rfl (op_assign rfl) ?_
    refine TL_nil ?_
    refine T_keepH [2] [] rfl rfl rfl rfl (by rw [hF]; rfl) ?_
    refine T_ret ?_
    obtain rfl := someI hm
    refine ⟨[_], [], ⟨rfl, trivial⟩, ?_, rfl, rfl, rfl, rfl⟩
    rfl
  · replace hm := condF hq hm
    refine T_skip ?_
    refine T_seq ?_
    refine T_seq ?_
    refine T_region ?_
    refine TL_pure rfl rfl rfl rfl (op_fieldAddr fa26_0 rfl rfl) ?_
    refine TL_pure rfl rfl rfl rfl (op_load_one ag24 rfl rfl) ?_
    refine TL_pure rfl rfl rfl rfl (op_lenT Tryd.underlying24 rfl (List.length_map _)) ?_
    refine TL_pure rfl rfl rfl rfl (op_move rfl) ?_
    refine TL_nil ?_
    refine T_block ?_
    refine T_keepH [3, 14, 15, 16] [] rfl rfl rfl rfl (by rw [hF]; rfl) ?_
    refine T_loop ?_
    obtain ⟨u0, hl0, hm⟩ := bindS hm
    refine TR_forL2 p0.Next (m_impl_ValidPolicy_L0 r9) (fun (s0 : Unit) => (.inl ())) (fun n0 (s0 : Unit) => ⟨[(3, .int .i64 r9), (14, .sl 1 (List.map aLa_i64 p0.Next)), (15, .int .i64 (p0.Next.length : Int)), (16, .int .i64 (n0 : Int))], []⟩) (fun u0 => match u0 with | .inl u0 => .exit 0 | .inr u0 => .ret) (fun u0 => match u0 with | .inl u0 => ⟨[], []⟩ | .inr u0 => ⟨[(2, .bool u0)], []⟩) (fun u0 => m_impl_ValidPolicy_A0 u0 = some out) hl0 hm (fun u0 hm => ?_) (fun hx0 s0 hm => ?_) (fun hx0 n0 x0 s0 c0 hxn0 hlt0 hm hc0 => ?_)
    · rcases u0 with u0 | u0
      · unfold m_impl_ValidPolicy_A0 at hm
        refine T_seq ?_
        refine T_region ?_
        refine TL_pure rfl rfl rfl rfl (op_assign rfl) ?_
        refine TL_nil ?_
        refine T_keepH [2] [] rfl rfl rfl rfl (by rw [hF]; rfl) ?_
        refine T_ret ?_
        obtain rfl := someI hm
        refine ⟨[_], [], ⟨rfl, trivial⟩, ?_, rfl, rfl, rfl, rfl⟩
        rfl
      · unfold m_impl_ValidPolicy_A0 at hm
        obtain rfl := someI hm
        refine ⟨[_], [], ⟨rfl, trivial⟩, ?_, rfl, rfl, rfl, rfl⟩
        rfl
    · refine T_seq ?_
      refine T_region ?_
      refine TL_pure rfl rfl rfl rfl (op_lss rfl rfl) ?_
      refine TL_nil ?_
      refine T_seq ?_
      refine T_if_false rfl (decide_eq_false (by simp)) ?_
      refine T_keepH [] [] rfl rfl rfl rfl (by rw [hF]; rfl) ?_
      refine T_exit ?_
      exact hx0 (.inl ()) hm
    · unfold m_impl_ValidPolicy_L0 at hm
      refine T_seq ?_
      refine T_region ?_
      refine TL_pure rfl rfl rfl rfl (op_lss rfl rfl) ?_
      refine TL_nil ?_
      refine T_seq ?_
      refine T_if_true rfl (decide_eq_true (Int.ofNat_lt.2 hlt0)) ?_
      refine T_skip ?_
      refine T_seq ?_
      refine T_block ?_
      refine T_seq ?_
      refine T_region ?_
      refine TL_pure rfl rfl rfl rfl (op_index_sl el24 rfl rfl rfl (get_map hxn0) rfl) ?_
      refine TL_pure rfl rfl rfl rfl (op_load_one ag29 rfl rfl) ?_
      refine TL_pure rfl rfl rfl rfl (op_assign rfl) ?_
      refine TL_nil ?_
      refine T_seq ?_
      refine T_region ?_
      refine TL_pure rfl rfl rfl rfl (op_move rfl) ?_
      refine TL_pure rfl rfl rfl rfl (op_lenT Tryd.underlying29 rfl (List.length_map _)) ?_
      refine TL_fact (fun _ _ _ hr => RelP.slLen (i := 20) rfl hr) (fun hlen21 => ?_)
      rw [List.length_map] at hlen21
      refine TL_pure rfl rfl rfl rfl (op_neq rfl rfl) ?_
      refine TL_pure rfl rfl rfl rfl (op_move rfl) ?_
      refine TL_split 23 rfl rfl rfl (fun hq => ?_) (fun hq => ?_)
      · replace hm := condT hq hm
        refine TL_pass rfl rfl rfl rfl rfl rfl rfl ?_
        refine TL_pass rfl rfl rfl rfl rfl rfl rfl ?_
        refine TL_pass rfl rfl rfl rfl rfl rfl rfl ?_
        refine TL_pass rfl rfl rfl rfl rfl rfl rfl ?_
        refine TL_pass rfl rfl rfl rfl rfl rfl rfl ?_
        refine TL_pure rfl rfl rfl rfl (op_pick_true rfl rfl) ?_
        refine TL_nil ?_
        refine T_cond_true rfl ?_
        refine T_seq ?_
        refine T_region ?_
        refine TL_pure rfl rfl rfl rfl (op_assign rfl) ?_
        refine TL_nil ?_
        refine T_keepH [2] [] rfl rfl rfl rfl (by rw [hF]; rfl) ?_
        refine T_ret ?_
        obtain rfl := someI hm
        have hn := CtlOK_out hc0
        exact hx0 (.inr false) hn
      · replace hm := condF hq hm
        refine TL_want rfl rfl ?_
        refine TL_pure rfl rfl rfl rfl (op_move rfl) ?_
        refine TL_want rfl rfl ?_
        refine TL_pure rfl rfl rfl rfl (op_move rfl) ?_
        refine TL_want rfl rfl ?_
        refine TL_pure rfl rfl rfl rfl (op_subW rfl rfl) ?_
        refine TL_want rfl rfl ?_
        obtain ⟨r27, hr27, hm⟩ := bindS hm
        refine TL_callF (ACall.F (F := F) (c_impl_allWithin x0 (-1 : Int) (w64 (r9 - (1 : Int))) r27 hr27)) Tryd.call34 rfl rfl rfl rfl rfl ?_
        refine TL_want rfl rfl ?_
        refine TL_pure rfl rfl rfl rfl (op_not rfl) ?_
        refine TL_pure rfl rfl rfl rfl (op_pick_false rfl rfl) ?_
        refine TL_nil ?_
        refine T_cond rfl (fun hq => ?_) (fun hq => ?_)
        · replace hm := condT hq hm
          refine T_seq ?_
          refine T_region ?_
          refine TL_pure rfl rfl rfl rfl (op_assign rfl) ?_
          refine TL_nil ?_
          refine T_keepH [2] [] rfl rfl rfl rfl (by rw [hF]; rfl) ?_
          refine T_ret ?_
          obtain rfl := someI hm
          have hn := CtlOK_out hc0
          exact hx0 (.inr false) hn
        · replace hm := condF hq hm
          refine T_skip ?_
          refine T_region ?_
          refine TL_pure rfl rfl rfl rfl (op_addN rfl rfl (Nat.lt_of_lt_of_le hlt0 hlen8)) ?_
          refine TL_pure rfl rfl rfl rfl (op_move rfl) ?_
          refine TL_nil ?_
          refine TR_keepH [3, 14, 15, 16] [] rfl rfl rfl rfl (by rw [hF]; rfl) ?_
          obtain rfl := someI hm
          have hn := CtlOK_next hc0
          exact hn _ rfl
theorem c_impl_copyInts (p0 : List Int) (out : List Int) (hm : m_impl_copyInts p0 = some out) : ACall Tryd.prog 61 [.sl 1 (List.map a_i64 p0)] [] (.ow 1000) [(1000, .arr ⟨false, true⟩ 1 2 (List.map a_i64 out))] := by
  refine ACall.intro Tryd.func61 rfl Tryd.ntmps61 rfl (fun F hF => ?_)
  unfold m_impl_copyInts at hm
  refine T_seq ?_
  refine T_region ?_
  refine TL_pure rfl rfl rfl rfl (op_assign rfl) ?_
  refine TL_nil ?_
  refine T_seq ?_
  refine T_region ?_
  refine TL_buildSlice 11 (es := List.map a_i64 ([] : List Int)) el29 z2 rfl rfl rfl rfl rfl rfl rfl rfl rfl ?_
  refine TL_pure rfl rfl rfl rfl (op_move rfl) ?_
  obtain ⟨q5, hq5, hm⟩ := bindS hm
  refine TL_appendT (f := a_i64) (a := ([] : List Int)) (b := p0) el29 z2 rfl rfl rfl rfl rfl rfl rfl (capI_spec hq5) rfl rfl rfl rfl rfl ?_
  refine TL_pure rfl rfl rfl rfl (op_assign rfl) ?_
  refine TL_nil ?_
  refine T_keepH [2] [11] rfl rfl rfl rfl (by rw [hF]; rfl) ?_
  refine T_deepen 11 (p' := false) (List.map a_i64 (([] : List Int) ++ p0)) (by rw [hF]; rfl) rfl (ElR.map (f := a_i64) (g := a_i64) (fun _ => ⟨⟨rfl, rfl⟩, trivial⟩) (([] : List Int) ++ p0)) rfl rfl rfl ?_
  refine T_ren [(11, 1000)] rfl rfl rfl (by rw [hF]; rfl) ?_
  refine T_ret ?_
  obtain rfl := someI hm
  refine ⟨[_], [1000], ⟨rfl, trivial⟩, ?_, rfl, rfl, rfl, rfl⟩
  rfl
theorem c_impl_DifferenceOf_1 (p0 : Bool) (p1 : Bool) (out : Bool) (hm : m_impl_DifferenceOf_1 p0 p1 = some out) : ACall Tryd.prog 33 [.bool p0, .bool p1] [] (.bool out) [] := by
  refine ACall.intro Tryd.func33 rfl Tryd.ntmps33 rfl (fun F hF => ?_)
  unfold m_impl_DifferenceOf_1 at hm
  refine T_seq ?_
  refine T_region ?_
  refine TL_pure rfl rfl rfl rfl (op_assign rfl) ?_
  refine TL_nil ?_
  refine T_seq ?_
  refine T_region ?_
  refine TL_pure rfl rfl rfl rfl (op_move rfl) ?_
  refine TL_pure rfl rfl rfl rfl (op_move rfl) ?_
  refine TL_pure rfl rfl rfl rfl (op_neqB Tryd.underlying4 rfl rfl) ?_
  refine TL_pure rfl rfl rfl rfl (op_assign rfl) ?_
  refine TL_nil ?_
  refine T_keepH [4] [] rfl rfl rfl rfl (by rw [hF]; rfl) ?_
  refine T_ret ?_
  obtain rfl := someI hm
  refine ⟨[_], [], ⟨rfl, trivial⟩, ?_, rfl, rfl, rfl, rfl⟩
  rfl
theorem c_impl_apart_fDifferenceOf_1 (p0 : Policy) (p1 : Policy) (out : (List Int) × Bool) (hm : m_impl_apart_fDifferenceOf_1 p0 p1 = some out) : ACall Tryd.prog 32 [.agg [.sl 1 (List.map aLa_i64 p0.Next)], .agg [.sl 1 (List.map aLa_i64 p1.Next)], .fn (.func 33) [] []] [] (.tup [.ow 1000, .bool out.2]) [(1000, .arr ⟨false, true⟩ 1 2 (List.map a_i64 out.1))] := by
  refine ACall.intro Tryd.func32 rfl Tryd.ntmps32 rfl (fun F hF => ?_)
  unfold m_impl_apart_fDifferenceOf_1 at hm
  refine T_seq ?_
  refine T_region ?_
  refine TL_box 11 rfl rfl rfl rfl rfl rfl rfl ?_
  refine TL_box 12 rfl rfl rfl rfl rfl rfl rfl ?_
  refine TL_pure rfl rfl rfl rfl (op_assign rfl) ?_
  refine TL_pure rfl rfl rfl rfl (op_assign rfl) ?_
  refine TL_nil ?_
  refine T_seq ?_
  refine T_region ?_
  refine TL_makeMap (J := jk) 13 rfl rfl rfl rfl rfl rfl ?_
  refine TL_pure rfl rfl rfl rfl (op_buildA pa63 z63 rfl rfl rfl rfl rfl) ?_
  refine TL_mapIns (e := ([] : List ((Int × Int) × Bool))) (f := aMaA2a_i64a_bool) (encK := aA2a_i64) (encV := a_bool) ((0 : Int), (0 : Int)) true Tryd.underlying88 (key_pair Tryd.underlying63 Tryd.underlying2 sz2) (fun _ => rfl) rfl rfl rfl rfl rfl rfl rfl rfl rfl ?_
  refine TL_pure rfl rfl rfl rfl (op_move rfl) ?_
  refine TL_pure rfl rfl rfl rfl (op_assign rfl) ?_
  refine TL_nil ?_
  refine T_seq ?_
  refine T_region ?_
  refine TL_pure rfl rfl rfl rfl (op_buildP pl90 z90 rfl rfl rfl rfl rfl) ?_
  refine TL_ownNilAt 19 2 15 ⟨false, true⟩ 2 rfl rfl rfl (sz := 1) rfl rfl rfl rfl ?_
  refine TL_buildSliceD (ids := [15]) (es := List.map a_spot ([(spot.mk ((0 : Int), (0 : Int)) ([] : List Int))])) 14 el91 z90 rfl rfl rfl rfl rfl rfl (by rw [hF]; intro j hj; simp only [List.mem_cons, List.not_mem_nil, or_false] at hj; rcases hj with rfl <;> rfl) rfl rfl rfl rfl rfl rfl ?_
  refine TL_pure rfl rfl rfl rfl (op_assign rfl) ?_
  refine TL_nil ?_
  refine T_seq ?_
  refine T_seq ?_
  refine T_region ?_
  refine TL_pure rfl rfl rfl rfl (op_assign rfl) ?_
  refine TL_nil ?_
  refine T_block ?_
  refine T_keepH [2, 3, 4, 8, 9, 10] [11, 12, 13, 14] rfl rfl rfl rfl (by rw [hF]; rfl) ?_
  refine T_loop ?_
  obtain ⟨u0, hl0, hm⟩ := bindS hm
  refine TR_iter2 (m_impl_apart_fDifferenceOf_1_L0 p0 p1) (fun (s0 : (List ((Int × Int) × Bool)) × (List spot) × Int) => ⟨[(2, .fn (.func 33) [] []), (3, .ptr 11 0 0), (4, .ptr 12 0 0), (8, .mp 13), (9, .ow 14), (10, .int .i64 s0.2.2)], [(11, .box [.sl 1 (List.map aLa_i64 p0.Next)]), (12, .box [.sl 1 (List.map aLa_i64 p1.Next)]), (13, .box (.tr (.tup (List.map aMaA2a_i64a_bool s0.1)) :: jk)), (14, .arr ⟨false, true⟩ 3 90 (List.map a_spot s0.2.1))]⟩) (fun u0 => match u0 with | .inl u0 => .exit 0 | .inr u0 => .ret) (fun u0 => match u0 with | .inl u0 => ⟨[], []⟩ | .inr u0 => ⟨[(6, .ow 1000), (7, .bool u0.2)], [(1000, .arr ⟨false, true⟩ 1 2 (List.map a_i64 u0.1))]⟩) (fun u0 => m_impl_apart_fDifferenceOf_1_A0 u0 = some out) hl0 hm (fun u0 hm => ?_) (fun hx0 s0 c0 hm hc0 => ?_)
  · rcases u0 with u0 | u0
    · unfold m_impl_apart_fDifferenceOf_1_A0 at hm
      refine T_seq ?_
      refine T_region ?_
      refine TL_pure rfl rfl rfl rfl (op_assign rfl) ?_
      refine TL_pure rfl rfl rfl rfl (op_assign rfl) ?_
      refine TL_nil ?_
      refine T_ownNil 6 52 ⟨false, true⟩ 2 rfl rfl (sz := 1) rfl rfl rfl ?_
      refine T_keepH [6, 7] [52] rfl rfl rfl rfl (by rw [hF]; rfl) ?_
      refine T_ren [(52, 1000)] rfl rfl rfl (by rw [hF]; rfl) ?_
      refine T_ret ?_
      obtain rfl := someI hm
      refine ⟨[_, _], [1000], ⟨rfl, rfl, trivial⟩, ?_, rfl, rfl, rfl, rfl⟩
      rfl
    · unfold m_impl_apart_fDifferenceOf_1_A0 at hm
      obtain rfl := someI hm
      refine ⟨[_, _], [1000], ⟨rfl, rfl, trivial⟩, ?_, rfl, rfl, rfl, rfl⟩
      rfl
  · unfold m_impl_apart_fDifferenceOf_1_L0 at hm
    refine T_seq ?_
    refine T_seq ?_
    refine T_region ?_
    refine TL_pure rfl rfl rfl rfl (op_move rfl) ?_
    refine TL_pure rfl rfl rfl rfl (op_move rfl) ?_
    refine TL_pure rfl rfl rfl rfl (op_lenO Tryd.underlying91 rfl rfl (List.length_map _)) ?_
    refine TL_fact (fun _ _ _ hr => RelP.owLen (id := 14) rfl hr) (fun hlen23 => ?_)
    rw [List.length_map] at hlen23
    refine TL_pure rfl rfl rfl rfl (op_lss rfl rfl) ?_
    refine TL_nil ?_
    refine T_cond rfl (fun hq => ?_) (fun hq => ?_)
    · replace hm := condT hq hm
      refine T_skip ?_
      refine T_seq ?_
      refine T_block ?_
      refine T_seq ?_
      refine T_region ?_
      refine TL_pure rfl rfl rfl rfl (op_move rfl) ?_
      refine TL_nil ?_
      refine T_block ?_
      refine T_keepH [2, 3, 4, 8, 9, 10, 27] [11, 12, 13, 14] rfl rfl rfl rfl (by rw [hF]; rfl) ?_
      refine T_loop ?_
      obtain ⟨u1, hl1, hm⟩ := bindS hm
      refine TR_forL2 (List.range 4) (m_impl_apart_fDifferenceOf_1_L1 p0 p1 s0) (fun (s1 : (List ((Int × Int) × Bool)) × (List spot)) => (.inl (s1.1, s1.2))) (fun n1 (s1 : (List ((Int × Int) × Bool)) × (List spot)) => ⟨[(2, .fn (.func 33) [] []), (3, .ptr 11 0 0), (4, .ptr 12 0 0), (8, .mp 13), (9, .ow 14), (10, .int .i64 s0.2.2), (27, .int .i64 (n1 : Int))], [(11, .box [.sl 1 (List.map aLa_i64 p0.Next)]), (12, .box [.sl 1 (List.map aLa_i64 p1.Next)]), (13, .box (.tr (.tup (List.map aMaA2a_i64a_bool s1.1)) :: jk)), (14, .arr ⟨false, true⟩ 3 90 (List.map a_spot s1.2))]⟩) (fun u1 => match u1 with | .inl u1 => .exit 2 | .inr u1 => .ret) (fun u1 => match u1 with | .inl u1 => ⟨[(2, .fn (.func 33) [] []), (3, .ptr 11 0 0), (4, .ptr 12 0 0), (8, .mp 13), (9, .ow 14), (10, .int .i64 s0.2.2)], [(11, .box [.sl 1 (List.map aLa_i64 p0.Next)]), (12, .box [.sl 1 (List.map aLa_i64 p1.Next)]), (13, .box (.tr (.tup (List.map aMaA2a_i64a_bool u1.1)) :: jk)), (14, .arr ⟨false, true⟩ 3 90 (List.map a_spot u1.2))]⟩ | .inr u1 => ⟨[(6, .ow 1000), (7, .bool u1.2)], [(1000, .arr ⟨false, true⟩ 1 2 (List.map a_i64 u1.1))]⟩) (fun u1 => m_impl_apart_fDifferenceOf_1_A1 s0 u1 = some c0) hl1 hm (fun u1 hm => ?_) (fun hx1 s1 hm => ?_) (fun hx1 n1 x1 s1 c1 hxn1 hlt1 hm hc1 => ?_)
      · rcases u1 with u1 | u1
        · unfold m_impl_apart_fDifferenceOf_1_A1 at hm
          refine T_region ?_
          refine TL_pure rfl rfl rfl rfl (op_move rfl) ?_
          refine TL_pure rfl rfl rfl rfl (op_addW rfl rfl) ?_
          refine TL_pure rfl rfl rfl rfl (op_assign rfl) ?_
          refine TL_nil ?_
          refine TR_keepH [2, 3, 4, 8, 9, 10] [11, 12, 13, 14] rfl rfl rfl rfl (by rw [hF]; rfl) ?_
          obtain rfl := someI hm
          have hn := CtlOK_next hc0
          exact hn _ rfl
        · unfold m_impl_apart_fDifferenceOf_1_A1 at hm
          obtain rfl := someI hm
          have hn := CtlOK_out hc0
          exact hx0 (.inr (u1.1, u1.2)) hn
      · refine T_seq ?_
        refine T_region ?_
        refine TL_pure rfl rfl rfl rfl (op_lss rfl rfl) ?_
        refine TL_nil ?_
        refine T_seq ?_
        refine T_if_false rfl (decide_eq_false (by simp)) ?_
        refine T_keepH [2, 3, 4, 8, 9, 10] [11, 12, 13, 14] rfl rfl rfl rfl (by rw [hF]; rfl) ?_
        refine T_exit ?_
        exact hx1 (.inl (s1.1, s1.2)) hm
      · unfold m_impl_apart_fDifferenceOf_1_L1 at hm
        refine T_seq ?_
        refine T_region ?_
        refine TL_pure rfl rfl rfl rfl (op_lss rfl rfl) ?_
        refine TL_nil ?_
        refine T_seq ?_
        refine T_if_true rfl (decide_eq_true (by have := hlt1; simp at this; omega)) ?_
        refine T_skip ?_
        refine T_seq ?_
        refine T_block ?_
        refine T_seq ?_
        refine T_region ?_
        refine TL_pure rfl rfl rfl rfl (op_move rfl) ?_
        refine TL_pure rfl rfl rfl rfl (op_assign rfl) ?_
        refine TL_nil ?_
        refine T_seq ?_
        refine T_drawZ [] mix (by kernel_rfl) rfl ?_
        obtain ⟨x34, hx34, hm⟩ := bindS hm
        obtain ⟨x38, hx38, hm⟩ := bindS hm
        obtain ⟨x41, hx41, hm⟩ := bindS hm
        obtain ⟨x51, hx51, hm⟩ := bindS hm
        obtain ⟨x54, hx54, hm⟩ := bindS hm
        refine TZ_pure 0 (by kernel_rfl) rfl rfl rfl rfl rfl (op_fieldAddr fa26_0 rfl rfl) ?_
        refine TZ_pure 1 (by kernel_rfl) rfl rfl rfl rfl rfl (op_load_one ag24 rfl rfl) ?_
        refine TZ_pure 2 (by kernel_rfl) rfl rfl rfl rfl rfl (op_move rfl) ?_
        refine TZ_pure 3 (by kernel_rfl) rfl rfl rfl rfl rfl (op_move rfl) ?_
        refine TZ_pure 4 (by kernel_rfl) rfl rfl rfl rfl rfl (op_indexO el91 rfl rfl rfl hx34) ?_
        refine TZ_pure 5 (by kernel_rfl) rfl rfl rfl rfl rfl (op_fieldAddr fa90_0 rfl rfl) ?_
        refine TZ_pure 6 (by kernel_rfl) rfl rfl rfl rfl rfl (op_indexA (i := 0) pa63 rfl rfl rfl rfl rfl) ?_
        refine TZ_pure 7 (by kernel_rfl) rfl rfl rfl rfl rfl (op_loadD1 ag2 rfl rfl ((getI_spec hx34).2) rfl rfl rfl rfl) ?_
        refine TZ_pure 8 (by kernel_rfl) rfl rfl rfl rfl rfl (op_indexT el24 rfl rfl hx38 rfl) ?_
        refine TZ_pure 9 (by kernel_rfl) rfl rfl rfl rfl rfl (op_load_one ag29 rfl rfl) ?_
        refine TZ_pure 10 (by kernel_rfl) rfl rfl rfl rfl rfl (op_move rfl) ?_
        refine TZ_pure 11 (by kernel_rfl) rfl rfl rfl rfl rfl (op_indexT el29 rfl rfl hx41 rfl) ?_
        refine TZ_pure 12 (by kernel_rfl) rfl rfl rfl rfl rfl (op_load_one ag2 rfl rfl) ?_
        refine TZ_pure 13 (by kernel_rfl) rfl rfl rfl rfl rfl (op_fieldAddr fa26_0 rfl rfl) ?_
        refine TZ_pure 14 (by kernel_rfl) rfl rfl rfl rfl rfl (op_load_one ag24 rfl rfl) ?_
        refine TZ_pure 15 (by kernel_rfl) rfl rfl rfl rfl rfl (op_move rfl) ?_
        refine TZ_pure 16 (by kernel_rfl) rfl rfl rfl rfl rfl (op_move rfl) ?_
        refine TZ_pure 17 (by kernel_rfl) rfl rfl rfl rfl rfl (op_indexO el91 rfl rfl rfl hx34) ?_
        refine TZ_pure 18 (by kernel_rfl) rfl rfl rfl rfl rfl (op_fieldAddr fa90_0 rfl rfl) ?_
        refine TZ_pure 19 (by kernel_rfl) rfl rfl rfl rfl rfl (op_indexA (i := 1) pa63 rfl rfl rfl rfl rfl) ?_
        refine TZ_pure 20 (by kernel_rfl) rfl rfl rfl rfl rfl (op_loadD1 ag2 rfl rfl ((getI_spec hx34).2) rfl rfl rfl rfl) ?_
        refine TZ_pure 21 (by kernel_rfl) rfl rfl rfl rfl rfl (op_indexT el24 rfl rfl hx51 rfl) ?_
        refine TZ_pure 22 (by kernel_rfl) rfl rfl rfl rfl rfl (op_load_one ag29 rfl rfl) ?_
        refine TZ_pure 23 (by kernel_rfl) rfl rfl rfl rfl rfl (op_move rfl) ?_
        refine TZ_pure 24 (by kernel_rfl) rfl rfl rfl rfl rfl (op_indexT el29 rfl rfl hx54 rfl) ?_
        refine TZ_pure 25 (by kernel_rfl) rfl rfl rfl rfl rfl (op_load_one ag2 rfl rfl) ?_
        refine TZ_pure 26 (by kernel_rfl) rfl rfl rfl rfl rfl (op_assign rfl) ?_
        refine TZ_pure 27 (by kernel_rfl) rfl rfl rfl rfl rfl (op_assign rfl) ?_
        refine TZ_done (by kernel_rfl) ?_
        refine T_seq ?_
        refine T_region ?_
        refine TL_pure rfl rfl rfl rfl (op_move rfl) ?_
        refine TL_pure rfl rfl rfl rfl (op_move rfl) ?_
        refine TL_pure rfl rfl rfl rfl (op_indexO el91 rfl rfl rfl hx34) ?_
        refine TL_pure rfl rfl rfl rfl (op_fieldAddr fa90_1 rfl rfl) ?_
        refine TL_pure rfl rfl rfl rfl (op_loadD1 ag29 rfl rfl ((getI_spec hx34).2) rfl rfl rfl rfl) ?_
        obtain ⟨r61, hr61, hm⟩ := bindS hm
        refine TL_callOX [(1000, 48)] (ACall.F (F := F) (c_impl_copyInts x34.word r61 hr61)) Tryd.call61 rfl ⟨.inl (.inr (.inr ⟨_, _, (s0.2.2).toNat, 2, _, _, _, _, _, _, rfl, rfl, get_map ((getI_spec hx34).2), rfl, rfl, rfl, rfl⟩)), trivial⟩ rfl rfl rfl rfl rfl rfl rfl rfl rfl rfl rfl ?_
        refine TL_pure rfl rfl rfl rfl (op_move rfl) ?_
        refine TL_buildSlice 49 (es := List.map a_i64 [(n1 : Int)]) el29 z2 rfl rfl rfl rfl rfl rfl rfl rfl rfl ?_
        refine TL_undeep 48 (p' := false) (by rw [hF]; rfl) rfl (ElR.map (f := a_i64) (g := a_i64) (fun _ => ⟨⟨rfl, rfl⟩, trivial⟩) r61) rfl ?_
        obtain ⟨q64, hq64, hm⟩ := bindS hm
        refine TL_appendT (f := a_i64) (a := r61) (b := [(n1 : Int)]) el29 z2 rfl rfl rfl rfl rfl rfl rfl (capI_spec hq64) rfl rfl rfl rfl rfl ?_
        refine TL_pure rfl rfl rfl rfl (op_assign rfl) ?_
        refine TL_nil ?_
        refine T_seq ?_
        refine T_seq ?_
        refine T_region ?_
        refine TL_pure rfl rfl rfl rfl (op_move rfl) ?_
        refine TL_pure rfl rfl rfl rfl (op_move rfl) ?_
        refine TL_pure rfl rfl rfl rfl (op_geq rfl rfl) ?_
        refine TL_pure rfl rfl rfl rfl (op_move rfl) ?_
        refine TL_pure rfl rfl rfl rfl (op_geq rfl rfl) ?_
        obtain ⟨r70, hr70, hm⟩ := bindS hm
        refine TL_callV rfl (ACall.F (F := F) (c_impl_DifferenceOf_1 (decide ((0 : Int) ≤ x41)) (decide ((0 : Int) ≤ x54)) r70 hr70)) Tryd.call33 rfl rfl rfl rfl rfl ?_
        refine TL_nil ?_
        refine T_cond rfl (fun hq => ?_) (fun hq => ?_)
        · replace hm := condT hq hm
          refine T_seq ?_
          refine T_region ?_
          refine TL_pure rfl rfl rfl rfl (op_move rfl) ?_
          refine TL_pure rfl rfl rfl rfl (op_assign rfl) ?_
          refine TL_pure rfl rfl rfl rfl (op_assign rfl) ?_
          refine TL_nil ?_
          refine T_keepH [6, 7] [48] rfl rfl rfl rfl (by rw [hF]; rfl) ?_
          refine T_deepen 48 (p' := false) (List.map a_i64 (r61 ++ [(n1 : Int)])) (by rw [hF]; rfl) rfl (ElR.map (f := a_i64) (g := a_i64) (fun _ => ⟨⟨rfl, rfl⟩, trivial⟩) (r61 ++ [(n1 : Int)])) rfl rfl rfl ?_
          refine T_ren [(48, 1000)] rfl rfl rfl (by rw [hF]; rfl) ?_
          refine T_ret ?_
          obtain rfl := someI hm
          have hn := CtlOK_out hc1
          exact hx1 (.inr ((r61 ++ [(n1 : Int)]), true)) hn
        · replace hm := condF hq hm
          refine T_skip ?_
          refine T_seq ?_
          refine T_region ?_
          refine TL_pure rfl rfl rfl rfl (op_move rfl) ?_
          refine TL_pure rfl rfl rfl rfl (op_move rfl) ?_
          refine TL_pure rfl rfl rfl rfl (op_buildA pa63 z63 rfl rfl rfl rfl rfl) ?_
          refine TL_alloc 50 z63 rfl rfl rfl rfl rfl rfl rfl ?_
          refine TL_store_box sz63 rfl rfl rfl rfl rfl rfl rfl rfl rfl ?_
          refine TL_nil ?_
          refine T_join (fun (j0 : Bool) => ⟨[(2, .fn (.func 33) [] []), (3, .ptr 11 0 0), (4, .ptr 12 0 0), (8, .mp 13), (9, .ow 14), (10, .int .i64 s0.2.2), (14, .ow 48), (15, .ptr 50 0 0), (27, .int .i64 (n1 : Int)), (86, .bool j0)], [(11, .box [.sl 1 (List.map aLa_i64 p0.Next)]), (12, .box [.sl 1 (List.map aLa_i64 p1.Next)]), (13, .box (.tr (.tup (List.map aMaA2a_i64a_bool s1.1)) :: jk)), (14, .arr ⟨false, true⟩ 3 90 (List.map a_spot s1.2)), (48, .arr ⟨false, false⟩ 1 2 (List.map a_i64 (r61 ++ [(n1 : Int)]))), (50, .box [.int .i64 x41, .int .i64 x54])]⟩) (fun j0 => m_impl_apart_fDifferenceOf_1_J0 s1 n1 x41 x54 r61 j0 = some c1) (fun j0 hm => ?_) (fun hj0 => ?_)
          · unfold m_impl_apart_fDifferenceOf_1_J0 at hm
            refine T_cond rfl (fun hq => ?_) (fun hq => ?_)
            · replace hm := condT hq hm
              refine T_seq ?_
              refine T_region ?_
              refine TL_pure rfl rfl rfl rfl (op_move rfl) ?_
              refine TL_pure rfl rfl rfl rfl (op_load_agg ag63 sz63 rfl rfl rfl) ?_
              refine TL_mapSet (e := s1.1) (f := aMaA2a_i64a_bool) (encK := aA2a_i64) (encV := a_bool) (x41, x54) true Tryd.underlying88 (key_pair Tryd.underlying63 Tryd.underlying2 sz2) (fun _ => rfl) rfl rfl rfl rfl rfl rfl rfl rfl rfl ?_
              refine TL_nil ?_
              refine T_region ?_
              refine TL_pure rfl rfl rfl rfl (op_move rfl) ?_
              refine TL_pure rfl rfl rfl rfl (op_load_agg ag63 sz63 rfl rfl rfl) ?_
              refine TL_pure rfl rfl rfl rfl (op_move rfl) ?_
              refine TL_pure rfl rfl rfl rfl (op_buildP pl90 z90 rfl rfl rfl rfl rfl) ?_
              refine TL_deepen 48 (p' := false) (List.map a_i64 (r61 ++ [(n1 : Int)])) (by rw [hF]; rfl) rfl (ElR.map (f := a_i64) (g := a_i64) (fun _ => ⟨⟨rfl, rfl⟩, trivial⟩) (r61 ++ [(n1 : Int)])) rfl rfl rfl ?_
              refine TL_buildSliceD (ids := [48]) (es := List.map a_spot ([(spot.mk (x41, x54) (r61 ++ [(n1 : Int)]))])) 51 el91 z90 rfl rfl rfl rfl rfl rfl (by rw [hF]; intro j hj; simp only [List.mem_cons, List.not_mem_nil, or_false] at hj; rcases hj with rfl <;> rfl) rfl rfl rfl rfl rfl rfl ?_
              obtain ⟨q94, hq94, hm⟩ := bindS hm
              refine TL_appendDT (f := a_spot) (a := s1.2) (b := [(spot.mk (x41, x54) (r61 ++ [(n1 : Int)]))]) el91 z90 rfl rfl rfl rfl rfl rfl rfl rfl (by rw [hF]; rfl) (capI_spec hq94) rfl rfl rfl rfl rfl ?_
              refine TL_pure rfl rfl rfl rfl (op_assign rfl) ?_
              refine TL_nil ?_
              refine T_region ?_
              refine TL_pure rfl rfl rfl rfl (op_addN rfl rfl (by have := hlt1; simp at this; omega)) ?_
              refine TL_pure rfl rfl rfl rfl (op_move rfl) ?_
              refine TL_nil ?_
              refine TR_keepH [2, 3, 4, 8, 9, 10, 27] [11, 12, 13, 14] rfl rfl rfl rfl (by rw [hF]; rfl) ?_
              obtain rfl := someI hm
              have hn := CtlOK_next hc1
              exact hn _ rfl
            · replace hm := condF hq hm
              refine T_skip ?_
              refine T_region ?_
              refine TL_pure rfl rfl rfl rfl (op_addN rfl rfl (by have := hlt1; simp at this; omega)) ?_
              refine TL_pure rfl rfl rfl rfl (op_move rfl) ?_
              refine TL_nil ?_
              refine TR_keepH [2, 3, 4, 8, 9, 10, 27] [11, 12, 13, 14] rfl rfl rfl rfl (by rw [hF]; rfl) ?_
              obtain rfl := someI hm
              have hn := CtlOK_next hc1
              exact hn _ rfl
          · refine T_region ?_
            refine TL_pure rfl rfl rfl rfl (op_move rfl) ?_
            refine TL_pure rfl rfl rfl rfl (op_geq rfl rfl) ?_
            refine TL_pure rfl rfl rfl rfl (op_move rfl) ?_
            refine TL_join 3 (fun _ : Unit => ⟨[(2, .fn (.func 33) [] []), (3, .ptr 11 0 0), (4, .ptr 12 0 0), (8, .mp 13), (9, .ow 14), (10, .int .i64 s0.2.2), (14, .ow 48), (15, .ptr 50 0 0), (27, .int .i64 (n1 : Int)), (80, .bool ((decide ((0 : Int) ≤ x41)) && (decide ((0 : Int) ≤ x54))))], [(11, .box [.sl 1 (List.map aLa_i64 p0.Next)]), (12, .box [.sl 1 (List.map aLa_i64 p1.Next)]), (13, .box (.tr (.tup (List.map aMaA2a_i64a_bool s1.1)) :: jk)), (14, .arr ⟨false, true⟩ 3 90 (List.map a_spot s1.2)), (48, .arr ⟨false, false⟩ 1 2 (List.map a_i64 (r61 ++ [(n1 : Int)]))), (50, .box [.int .i64 x41, .int .i64 x54])]⟩) (fun _ => True) (fun _ _ => ?_) (fun hjj => ?_)
            · refine TL_pure rfl rfl rfl rfl (op_move rfl) ?_
              refine TL_split 81 rfl rfl rfl (fun hq => ?_) (fun hq => ?_)
              · replace hm := condT hq hm
                refine TL_want rfl rfl ?_
                refine TL_pure rfl rfl rfl rfl (op_move rfl) ?_
                refine TL_want rfl rfl ?_
                refine TL_pure rfl rfl rfl rfl (op_load_agg ag63 sz63 rfl rfl rfl) ?_
                refine TL_want rfl rfl ?_
                refine TL_pure rfl rfl rfl rfl (op_lookup (e := s1.1) (q := (x41, x54)) (zr := false) (f := aMaA2a_i64a_bool) (encK := aA2a_i64) (encV := a_bool) false Tryd.underlying88 (key_pair Tryd.underlying63 Tryd.underlying2 sz2) (fun _ => rfl) z4 (zero_cav rfl) rfl rfl rfl rfl rfl) ?_
                refine TL_want rfl rfl ?_
                refine TL_pure rfl rfl rfl rfl (op_not rfl) ?_
                refine TL_pure rfl rfl rfl rfl (op_pick_true rfl rfl) ?_
                refine TL_nil ?_
                refine T_keepH [2, 3, 4, 8, 9, 10, 14, 15, 27, 86] [11, 12, 13, 14, 48, 50] rfl rfl rfl rfl (by rw [hF]; rfl) ?_
                exact hj0 (!((mget s1.1 (x41, x54)).getD false)) hm
              · replace hm := condF hq hm
                refine TL_pass rfl rfl rfl rfl rfl rfl rfl ?_
                refine TL_pass rfl rfl rfl rfl rfl rfl rfl ?_
                refine TL_pass rfl rfl rfl rfl rfl rfl rfl ?_
                refine TL_pass rfl rfl rfl rfl rfl rfl rfl ?_
                refine TL_pure rfl rfl rfl rfl (op_pick_false rfl rfl) ?_
                refine TL_nil ?_
                refine T_keepH [2, 3, 4, 8, 9, 10, 14, 15, 27, 86] [11, 12, 13, 14, 48, 50] rfl rfl rfl rfl (by rw [hF]; rfl) ?_
                exact hj0 false hm
            · refine TL_split 77 rfl rfl rfl (fun hq => ?_) (fun hq => ?_)
              · refine TL_want rfl rfl ?_
                refine TL_pure rfl rfl rfl rfl (op_move rfl) ?_
                refine TL_want rfl rfl ?_
                refine TL_pure rfl rfl rfl rfl (op_geq rfl rfl) ?_
                refine TL_pure rfl rfl rfl rfl (op_pick_true rfl rfl) ?_
                refine TL_keepH [2, 3, 4, 8, 9, 10, 14, 15, 27, 80] [11, 12, 13, 14, 48, 50] rfl rfl rfl rfl (by rw [hF]; rfl) ?_
                exact TL_cast _ (by first | (rw [hq, Bool.true_and]; done) | (rw [hq]; rfl)) (hjj () trivial)
              · refine TL_pass rfl rfl rfl rfl rfl rfl rfl ?_
                refine TL_pass rfl rfl rfl rfl rfl rfl rfl ?_
                refine TL_pure rfl rfl rfl rfl (op_pick_false rfl rfl) ?_
                refine TL_keepH [2, 3, 4, 8, 9, 10, 14, 15, 27, 80] [11, 12, 13, 14, 48, 50] rfl rfl rfl rfl (by rw [hF]; rfl) ?_
                exact TL_cast _ (by first | (rw [hq, Bool.false_and]; done) | (rw [hq]; rfl)) (hjj () trivial)
    · replace hm := condF hq hm
      refine T_keepH [] [] rfl rfl rfl rfl (by rw [hF]; rfl) ?_
      refine T_exit ?_
      obtain rfl := someI hm
      have hn := CtlOK_out hc0
      exact hx0 (.inl ()) hn
theorem c_impl_DifferenceOf (p0 : Policy) (p1 : Policy) (out : (List Int) × Bool) (hm : m_impl_DifferenceOf p0 p1 = some out) : ACall Tryd.prog 11 [.agg [.sl 1 (List.map aLa_i64 p0.Next)], .agg [.sl 1 (List.map aLa_i64 p1.Next)]] [] (.tup [.ow 1000, .bool out.2]) [(1000, .arr ⟨false, true⟩ 1 2 (List.map a_i64 out.1))] := by
  refine ACall.intro Tryd.func11 rfl Tryd.ntmps11 rfl (fun F hF => ?_)
  unfold m_impl_DifferenceOf at hm
  refine T_seq ?_
  refine T_region ?_
  refine TL_box 11 rfl rfl rfl rfl rfl rfl rfl ?_
  refine TL_box 12 rfl rfl rfl rfl rfl rfl rfl ?_
  refine TL_pure rfl rfl rfl rfl (op_assign rfl) ?_
  refine TL_pure rfl rfl rfl rfl (op_assign rfl) ?_
  refine TL_nil ?_
  refine T_seq ?_
  refine T_seq ?_
  refine T_region ?_
  refine TL_pure rfl rfl rfl rfl (op_load_agg ag26 sz26 rfl rfl rfl) ?_
  obtain ⟨r9, hr9, hm⟩ := bindS hm
  refine TL_callF (ACall.F (F := F) (c_impl_ValidPolicy p0 r9 hr9)) Tryd.call31 rfl rfl rfl rfl rfl ?_
  refine TL_pure rfl rfl rfl rfl (op_not rfl) ?_
  refine TL_pure rfl rfl rfl rfl (op_move rfl) ?_
  refine TL_split 11 rfl rfl rfl (fun hq => ?_) (fun hq => ?_)
  · replace hm := condT hq hm
    refine TL_pass rfl rfl rfl rfl rfl rfl rfl ?_
    refine TL_pass rfl rfl rfl rfl rfl rfl rfl ?_
    refine TL_pass rfl rfl rfl rfl rfl rfl rfl ?_
    refine TL_pure rfl rfl rfl rfl (op_pick_true rfl rfl) ?_
    refine TL_nil ?_
    refine T_cond_true rfl ?_
    refine T_seq ?_
    refine T_region ?_
    refine TL_pure rfl rfl rfl rfl (op_assign rfl) ?_
    refine TL_pure rfl rfl rfl rfl (op_assign rfl) ?_
    refine TL_nil ?_
    refine T_ownNil 4 13 ⟨false, true⟩ 2 rfl rfl (sz := 1) rfl rfl rfl ?_
    refine T_keepH [4, 5] [13] rfl rfl rfl rfl (by rw [hF]; rfl) ?_
    refine T_ren [(13, 1000)] rfl rfl rfl (by rw [hF]; rfl) ?_
    refine T_ret ?_
    obtain rfl := someI hm
    refine ⟨[_, _], [1000], ⟨rfl, rfl, trivial⟩, ?_, rfl, rfl, rfl, rfl⟩
    rfl
  · replace hm := condF hq hm
    refine TL_want rfl rfl ?_
    refine TL_pure rfl rfl rfl rfl (op_load_agg ag26 sz26 rfl rfl rfl) ?_
    refine TL_want rfl rfl ?_
    obtain ⟨r13, hr13, hm⟩ := bindS hm
    refine TL_callF (ACall.F (F := F) (c_impl_ValidPolicy p1 r13 hr13)) Tryd.call31 rfl rfl rfl rfl rfl ?_
    refine TL_want rfl rfl ?_
    refine TL_pure rfl rfl rfl rfl (op_not rfl) ?_
    refine TL_pure rfl rfl rfl rfl (op_pick_false rfl rfl) ?_
    refine TL_nil ?_
    refine T_cond rfl (fun hq => ?_) (fun hq => ?_)
    · replace hm := condT hq hm
      refine T_seq ?_
      refine T_region ?_
      refine TL_pure rfl rfl rfl rfl (op_assign rfl) ?_
      refine TL_pure rfl rfl rfl rfl (op_assign rfl) ?_
      refine TL_nil ?_
      refine T_ownNil 4 14 ⟨false, true⟩ 2 rfl rfl (sz := 1) rfl rfl rfl ?_
      refine T_keepH [4, 5] [14] rfl rfl rfl rfl (by rw [hF]; rfl) ?_
      refine T_ren [(14, 1000)] rfl rfl rfl (by rw [hF]; rfl) ?_
      refine T_ret ?_
      obtain rfl := someI hm
      refine ⟨[_, _], [1000], ⟨rfl, rfl, trivial⟩, ?_, rfl, rfl, rfl, rfl⟩
      rfl
    · replace hm := condF hq hm
      refine T_skip ?_
      refine T_seq ?_
      refine T_region ?_
      refine TL_pure rfl rfl rfl rfl (op_load_agg ag26 sz26 rfl rfl rfl) ?_
      refine TL_pure rfl rfl rfl rfl (op_load_agg ag26 sz26 rfl rfl rfl) ?_
      obtain ⟨r19, hr19, hm⟩ := bindS hm
      refine TL_callO [(1000, 15)] (ACall.F (F := F) (c_impl_apart_fDifferenceOf_1 p0 p1 r19 hr19)) Tryd.call32 rfl rfl rfl rfl rfl rfl rfl rfl rfl rfl rfl rfl rfl ?_
      refine TL_pure rfl rfl rfl rfl (op_move rfl) ?_
      refine TL_pure rfl rfl rfl rfl (op_extract rfl rfl) ?_
      refine TL_pure rfl rfl rfl rfl (op_extract rfl rfl) ?_
      refine TL_pure rfl rfl rfl rfl (op_assign rfl) ?_
      refine TL_pure rfl rfl rfl rfl (op_assign rfl) ?_
      refine TL_nil ?_
      refine T_seq ?_
      refine T_seq ?_
      refine T_region ?_
      refine TL_pure rfl rfl rfl rfl (op_move rfl) ?_
      refine TL_pure rfl rfl rfl rfl (op_not rfl) ?_
      refine TL_pure rfl rfl rfl rfl (op_move rfl) ?_
      refine TL_join 4 (fun _ : Unit => ⟨[(6, .ow 15), (28, .bool ((!r19.2) || (decide ((40 : Int) < (r19.1.length : Int)))))], [(15, .arr ⟨false, true⟩ 1 2 (List.map a_i64 r19.1))]⟩) (fun _ => True) (fun _ _ => ?_) (fun hjj => ?_)
      · refine TL_nil ?_
        refine T_cond rfl (fun hq => ?_) (fun hq => ?_)
        · replace hm := condT hq hm
          refine T_seq ?_
          refine T_region ?_
          refine TL_pure rfl rfl rfl rfl (op_assign rfl) ?_
          refine TL_pure rfl rfl rfl rfl (op_assign rfl) ?_
          refine TL_nil ?_
          refine T_ownNil 4 16 ⟨false, true⟩ 2 rfl rfl (sz := 1) rfl rfl rfl ?_
          refine T_keepH [4, 5] [16] rfl rfl rfl rfl (by rw [hF]; rfl) ?_
          refine T_ren [(16, 1000)] rfl rfl rfl (by rw [hF]; rfl) ?_
          refine T_ret ?_
          obtain rfl := someI hm
          refine ⟨[_, _], [1000], ⟨rfl, rfl, trivial⟩, ?_, rfl, rfl, rfl, rfl⟩
          rfl
        · replace hm := condF hq hm
          refine T_skip ?_
          refine T_seq ?_
          refine T_region ?_
          refine TL_pure rfl rfl rfl rfl (op_move rfl) ?_
          refine TL_pure rfl rfl rfl rfl (op_assign rfl) ?_
          refine TL_pure rfl rfl rfl rfl (op_assign rfl) ?_
          refine TL_nil ?_
          refine T_keepH [4, 5] [15] rfl rfl rfl rfl (by rw [hF]; rfl) ?_
          refine T_ren [(15, 1000)] rfl rfl rfl (by rw [hF]; rfl) ?_
          refine T_ret ?_
          obtain rfl := someI hm
          refine ⟨[_, _], [1000], ⟨rfl, rfl, trivial⟩, ?_, rfl, rfl, rfl, rfl⟩
          rfl
      · refine TL_split 24 rfl rfl rfl (fun hq => ?_) (fun hq => ?_)
        · refine TL_pass rfl rfl rfl rfl rfl rfl rfl ?_
          refine TL_pass rfl rfl rfl rfl rfl rfl rfl ?_
          refine TL_pass rfl rfl rfl rfl rfl rfl rfl ?_
          refine TL_pure rfl rfl rfl rfl (op_pick_true rfl rfl) ?_
          refine TL_keepH [6, 28] [15] rfl rfl rfl rfl (by rw [hF]; rfl) ?_
          exact TL_cast _ (by first | (rw [hq, Bool.true_or]; done) | (rw [hq]; rfl)) (hjj () trivial)
        · refine TL_want rfl rfl ?_
          refine TL_pure rfl rfl rfl rfl (op_move rfl) ?_
          refine TL_want rfl rfl ?_
          refine TL_pure rfl rfl rfl rfl (op_lenO Tryd.underlying29 rfl rfl (List.length_map _)) ?_
          refine TL_fact (fun _ _ _ hr => RelP.owLen (id := 15) rfl hr) (fun hlen26 => ?_)
          rw [List.length_map] at hlen26
          refine TL_want rfl rfl ?_
          refine TL_pure rfl rfl rfl rfl (op_gtr rfl rfl) ?_
          refine TL_pure rfl rfl rfl rfl (op_pick_false rfl rfl) ?_
          refine TL_keepH [6, 28] [15] rfl rfl rfl rfl (by rw [hF]; rfl) ?_
          exact TL_cast _ (by first | (rw [hq, Bool.false_or]; done) | (rw [hq]; rfl)) (hjj () trivial)
theorem c_impl_Policy_run (p0 : Policy) (p1 : Int) (p2 : List Int) (out : Int × Int) (hm : m_impl_Policy_run p0 p1 p2 = some out) : ACall Tryd.prog 35 [.agg [.sl 1 (List.map aLa_i64 p0.Next)], .int .i64 p1, .sl 1 (List.map a_i64 p2)] [] (.tup [.int .i64 out.1, .int .i64 out.2]) [] := by
  refine ACall.intro Tryd.func35 rfl Tryd.ntmps35 rfl (fun F hF => ?_)
  unfold m_impl_Policy_run at hm
  refine T_seq ?_
  refine T_region ?_
  refine TL_box 11 rfl rfl rfl rfl rfl rfl rfl ?_
  refine TL_pure rfl rfl rfl rfl (op_assign rfl) ?_
  refine TL_pure rfl rfl rfl rfl (op_assign rfl) ?_
  refine TL_nil ?_
  refine T_seq ?_
  refine T_seq ?_
  refine T_region ?_
  refine TL_pure rfl rfl rfl rfl (op_move rfl) ?_
  refine TL_pure rfl rfl rfl rfl (op_lenT Tryd.underlying29 rfl (List.length_map _)) ?_
  refine TL_fact (fun _ _ _ hr => RelP.slLen (i := 11) rfl hr) (fun hlen12 => ?_)
  rw [List.length_map] at hlen12
  refine TL_pure rfl rfl rfl rfl (op_move rfl) ?_
  refine TL_nil ?_
  refine T_block ?_
  refine T_keepH [1, 2, 3, 11, 12, 13] [11] rfl rfl rfl rfl (by rw [hF]; rfl) ?_
  refine T_loop ?_
  obtain ⟨u0, hl0, hm⟩ := bindS hm
  refine TR_forL2 p2 (m_impl_Policy_run_L0 p0) (fun (s0 : Int) => (.inl s0)) (fun n0 (s0 : Int) => ⟨[(1, .int .i64 s0), (2, .sl 1 (List.map a_i64 p2)), (3, .ptr 11 0 0), (11, .sl 1 (List.map a_i64 p2)), (12, .int .i64 (p2.length : Int)), (13, .int .i64 (n0 : Int))], [(11, .box [.sl 1 (List.map aLa_i64 p0.Next)])]⟩) (fun u0 => match u0 with | .inl u0 => .exit 0 | .inr u0 => .ret) (fun u0 => match u0 with | .inl u0 => ⟨[(1, .int .i64 u0), (2, .sl 1 (List.map a_i64 p2))], []⟩ | .inr u0 => ⟨[(6, .int .i64 u0.1), (7, .int .i64 u0.2)], []⟩) (fun u0 => m_impl_Policy_run_A0 p2 u0 = some out) hl0 hm (fun u0 hm => ?_) (fun hx0 s0 hm => ?_) (fun hx0 n0 x0 s0 c0 hxn0 hlt0 hm hc0 => ?_)
  · rcases u0 with u0 | u0
    · unfold m_impl_Policy_run_A0 at hm
      refine T_seq ?_
      refine T_region ?_
      refine TL_pure rfl rfl rfl rfl (op_move rfl) ?_
      refine TL_pure rfl rfl rfl rfl (op_lenT Tryd.underlying29 rfl (List.length_map _)) ?_
      obtain ⟨r34, hr34, hm⟩ := bindS hm
      refine TL_callF (ACall.F (F := F) (c_impl_size (p2.length : Int) r34 hr34)) Tryd.call59 rfl rfl rfl rfl rfl ?_
      refine TL_pure rfl rfl rfl rfl (op_move rfl) ?_
      refine TL_pure rfl rfl rfl rfl (op_assign rfl) ?_
      refine TL_pure rfl rfl rfl rfl (op_assign rfl) ?_
      refine TL_nil ?_
      refine T_keepH [6, 7] [] rfl rfl rfl rfl (by rw [hF]; rfl) ?_
      refine T_ret ?_
      obtain rfl := someI hm
      refine ⟨[_, _], [], ⟨rfl, rfl, trivial⟩, ?_, rfl, rfl, rfl, rfl⟩
      rfl
    · unfold m_impl_Policy_run_A0 at hm
      obtain rfl := someI hm
      refine ⟨[_, _], [], ⟨rfl, rfl, trivial⟩, ?_, rfl, rfl, rfl, rfl⟩
      rfl
  · refine T_seq ?_
    refine T_region ?_
    refine TL_pure rfl rfl rfl rfl (op_lss rfl rfl) ?_
    refine TL_nil ?_
    refine T_seq ?_
    refine T_if_false rfl (decide_eq_false (by simp)) ?_
    refine T_keepH [1, 2] [] rfl rfl rfl rfl (by rw [hF]; rfl) ?_
    refine T_exit ?_
    exact hx0 (.inl s0) hm
  · unfold m_impl_Policy_run_L0 at hm
    refine T_seq ?_
    refine T_region ?_
    refine TL_pure rfl rfl rfl rfl (op_lss rfl rfl) ?_
    refine TL_nil ?_
    refine T_seq ?_
    refine T_if_true rfl (decide_eq_true (Int.ofNat_lt.2 hlt0)) ?_
    refine T_skip ?_
    refine T_seq ?_
    refine T_block ?_
    refine T_seq ?_
    refine T_region ?_
    refine TL_pure rfl rfl rfl rfl (op_move rfl) ?_
    refine TL_pure rfl rfl rfl rfl (op_index_sl el29 rfl rfl rfl (get_map hxn0) rfl) ?_
    refine TL_pure rfl rfl rfl rfl (op_load_one ag2 rfl rfl) ?_
    refine TL_pure rfl rfl rfl rfl (op_assign rfl) ?_
    refine TL_pure rfl rfl rfl rfl (op_assign rfl) ?_
    refine TL_nil ?_
    refine T_seq ?_
    refine T_region ?_
    refine TL_pure rfl rfl rfl rfl (op_fieldAddr fa26_0 rfl rfl) ?_
    refine TL_pure rfl rfl rfl rfl (op_load_one ag24 rfl rfl) ?_
    refine TL_pure rfl rfl rfl rfl (op_move rfl) ?_
    obtain ⟨x21, hx21, hm⟩ := bindS hm
    refine TL_pure rfl rfl rfl rfl (op_indexT el24 rfl rfl hx21 rfl) ?_
    refine TL_pure rfl rfl rfl rfl (op_load_one ag29 rfl rfl) ?_
    refine TL_pure rfl rfl rfl rfl (op_move rfl) ?_
    obtain ⟨x24, hx24, hm⟩ := bindS hm
    refine TL_pure rfl rfl rfl rfl (op_indexT el29 rfl rfl hx24 rfl) ?_
    refine TL_pure rfl rfl rfl rfl (op_load_one ag2 rfl rfl) ?_
    refine TL_pure rfl rfl rfl rfl (op_assign rfl) ?_
    refine TL_nil ?_
    refine T_seq ?_
    refine T_seq ?_
    refine T_region ?_
    refine TL_pure rfl rfl rfl rfl (op_move rfl) ?_
    refine TL_pure rfl rfl rfl rfl (op_lss rfl rfl) ?_
    refine TL_nil ?_
    refine T_cond rfl (fun hq => ?_) (fun hq => ?_)
    · replace hm := condT hq hm
      refine T_seq ?_
      refine T_region ?_
      refine TL_pure rfl rfl rfl rfl (op_move rfl) ?_
      refine TL_pure rfl rfl rfl rfl (op_move rfl) ?_
      refine TL_pure rfl rfl rfl rfl (op_assign rfl) ?_
      refine TL_pure rfl rfl rfl rfl (op_assign rfl) ?_
      refine TL_nil ?_
      refine T_keepH [6, 7] [] rfl rfl rfl rfl (by rw [hF]; rfl) ?_
      refine T_ret ?_
      obtain rfl := someI hm
      have hn := CtlOK_out hc0
      exact hx0 (.inr ((n0 : Int), s0)) hn
    · replace hm := condF hq hm
      refine T_skip ?_
      refine T_region ?_
      refine TL_pure rfl rfl rfl rfl (op_move rfl) ?_
      refine TL_pure rfl rfl rfl rfl (op_assign rfl) ?_
      refine TL_nil ?_
      refine T_region ?_
      refine TL_pure rfl rfl rfl rfl (op_addN rfl rfl (Nat.lt_of_lt_of_le hlt0 hlen12)) ?_
      refine TL_pure rfl rfl rfl rfl (op_move rfl) ?_
      refine TL_nil ?_
      refine TR_keepH [1, 2, 3, 11, 12, 13] [11] rfl rfl rfl rfl (by rw [hF]; rfl) ?_
      obtain rfl := someI hm
      have hn := CtlOK_next hc0
      exact hn _ rfl
theorem c_impl_RunPolicy (p0 : Policy) (p1 : List Int) (out : Int × Int × Bool) (hm : m_impl_RunPolicy p0 p1 = some out) : ACall Tryd.prog 12 [.agg [.sl 1 (List.map aLa_i64 p0.Next)], .sl 1 (List.map a_i64 p1)] [] (.tup [.int .i64 out.1, .int .i64 out.2.1, .bool out.2.2]) [] := by
  refine ACall.intro Tryd.func12 rfl Tryd.ntmps12 rfl (fun F hF => ?_)
  unfold m_impl_RunPolicy at hm
  refine T_seq ?_
  refine T_region ?_
  refine TL_box 11 rfl rfl rfl rfl rfl rfl rfl ?_
  refine TL_pure rfl rfl rfl rfl (op_assign rfl) ?_
  refine TL_pure rfl rfl rfl rfl (op_assign rfl) ?_
  refine TL_pure rfl rfl rfl rfl (op_assign rfl) ?_
  refine TL_nil ?_
  refine T_seq ?_
  refine T_seq ?_
  refine T_region ?_
  refine TL_pure rfl rfl rfl rfl (op_load_agg ag26 sz26 rfl rfl rfl) ?_
  obtain ⟨r10, hr10, hm⟩ := bindS hm
  refine TL_callF (ACall.F (F := F) (c_impl_ValidPolicy p0 r10 hr10)) Tryd.call31 rfl rfl rfl rfl rfl ?_
  refine TL_pure rfl rfl rfl rfl (op_not rfl) ?_
  refine TL_pure rfl rfl rfl rfl (op_move rfl) ?_
  refine TL_join 4 (fun _ : Unit => ⟨[(1, .sl 1 (List.map a_i64 p1)), (2, .ptr 11 0 0), (16, .bool ((!r10) || (decide ((40 : Int) < (p1.length : Int)))))], [(11, .box [.sl 1 (List.map aLa_i64 p0.Next)])]⟩) (fun _ => True) (fun _ _ => ?_) (fun hjj => ?_)
  · refine TL_pure rfl rfl rfl rfl (op_move rfl) ?_
    refine TL_split 17 rfl rfl rfl (fun hq => ?_) (fun hq => ?_)
    · replace hm := condT hq hm
      refine TL_pass rfl rfl rfl rfl rfl rfl rfl ?_
      refine TL_pass rfl rfl rfl rfl rfl rfl rfl ?_
      refine TL_pass rfl rfl rfl rfl rfl rfl rfl ?_
      refine TL_pure rfl rfl rfl rfl (op_pick_true rfl rfl) ?_
      refine TL_nil ?_
      refine T_cond_true rfl ?_
      refine T_seq ?_
      refine T_region ?_
      refine TL_pure rfl rfl rfl rfl (op_assign rfl) ?_
      refine TL_pure rfl rfl rfl rfl (op_assign rfl) ?_
      refine TL_pure rfl rfl rfl rfl (op_assign rfl) ?_
      refine TL_nil ?_
      refine T_keepH [4, 5, 6] [] rfl rfl rfl rfl (by rw [hF]; rfl) ?_
      refine T_ret ?_
      obtain rfl := someI hm
      refine ⟨[_, _, _], [], ⟨rfl, rfl, rfl, trivial⟩, ?_, rfl, rfl, rfl, rfl⟩
      rfl
    · replace hm := condF hq hm
      refine TL_want rfl rfl ?_
      refine TL_pure rfl rfl rfl rfl (op_move rfl) ?_
      refine TL_want rfl rfl ?_
      obtain ⟨r19, hr19, hm⟩ := bindS hm
      refine TL_callF (ACall.F (F := F) (c_impl_allWithin p1 (0 : Int) (3 : Int) r19 hr19)) Tryd.call34 rfl rfl rfl rfl rfl ?_
      refine TL_want rfl rfl ?_
      refine TL_pure rfl rfl rfl rfl (op_not rfl) ?_
      refine TL_pure rfl rfl rfl rfl (op_pick_false rfl rfl) ?_
      refine TL_nil ?_
      refine T_cond rfl (fun hq => ?_) (fun hq => ?_)
      · replace hm := condT hq hm
        refine T_seq ?_
        refine T_region ?_
        refine TL_pure rfl rfl rfl rfl (op_assign rfl) ?_
        refine TL_pure rfl rfl rfl rfl (op_assign rfl) ?_
        refine TL_pure rfl rfl rfl rfl (op_assign rfl) ?_
        refine TL_nil ?_
        refine T_keepH [4, 5, 6] [] rfl rfl rfl rfl (by rw [hF]; rfl) ?_
        refine T_ret ?_
        obtain rfl := someI hm
        refine ⟨[_, _, _], [], ⟨rfl, rfl, rfl, trivial⟩, ?_, rfl, rfl, rfl, rfl⟩
        rfl
      · replace hm := condF hq hm
        refine T_skip ?_
        refine T_seq ?_
        refine T_region ?_
        refine TL_pure rfl rfl rfl rfl (op_load_agg ag26 sz26 rfl rfl rfl) ?_
        refine TL_pure rfl rfl rfl rfl (op_move rfl) ?_
        obtain ⟨r25, hr25, hm⟩ := bindS hm
        refine TL_callF (ACall.F (F := F) (c_impl_Policy_run p0 (0 : Int) p1 r25 hr25)) Tryd.call35 rfl rfl rfl rfl rfl ?_
        refine TL_pure rfl rfl rfl rfl (op_move rfl) ?_
        refine TL_pure rfl rfl rfl rfl (op_extract rfl rfl) ?_
        refine TL_pure rfl rfl rfl rfl (op_extract rfl rfl) ?_
        refine TL_pure rfl rfl rfl rfl (op_assign rfl) ?_
        refine TL_pure rfl rfl rfl rfl (op_assign rfl) ?_
        refine TL_nil ?_
        refine T_seq ?_
        refine T_region ?_
        refine TL_pure rfl rfl rfl rfl (op_move rfl) ?_
        refine TL_pure rfl rfl rfl rfl (op_move rfl) ?_
        refine TL_pure rfl rfl rfl rfl (op_assign rfl) ?_
        refine TL_pure rfl rfl rfl rfl (op_assign rfl) ?_
        refine TL_pure rfl rfl rfl rfl (op_assign rfl) ?_
        refine TL_nil ?_
        refine T_keepH [4, 5, 6] [] rfl rfl rfl rfl (by rw [hF]; rfl) ?_
        refine T_ret ?_
        obtain rfl := someI hm
        refine ⟨[_, _, _], [], ⟨rfl, rfl, rfl, trivial⟩, ?_, rfl, rfl, rfl, rfl⟩
        rfl
  · refine TL_split 12 rfl rfl rfl (fun hq => ?_) (fun hq => ?_)
    · refine TL_pass rfl rfl rfl rfl rfl rfl rfl ?_
      refine TL_pass rfl rfl rfl rfl rfl rfl rfl ?_
      refine TL_pass rfl rfl rfl rfl rfl rfl rfl ?_
      refine TL_pure rfl rfl rfl rfl (op_pick_true rfl rfl) ?_
      refine TL_keepH [1, 2, 16] [11] rfl rfl rfl rfl (by rw [hF]; rfl) ?_
      exact TL_cast _ (by first | (rw [hq, Bool.true_or]; done) | (rw [hq]; rfl)) (hjj () trivial)
    · refine TL_want rfl rfl ?_
      refine TL_pure rfl rfl rfl rfl (op_move rfl) ?_
      refine TL_want rfl rfl ?_
      refine TL_pure rfl rfl rfl rfl (op_lenT Tryd.underlying29 rfl (List.length_map _)) ?_
      refine TL_fact (fun _ _ _ hr => RelP.slLen (i := 13) rfl hr) (fun hlen14 => ?_)
      rw [List.length_map] at hlen14
      refine TL_want rfl rfl ?_
      refine TL_pure rfl rfl rfl rfl (op_gtr rfl rfl) ?_
      refine TL_pure rfl rfl rfl rfl (op_pick_false rfl rfl) ?_
      refine TL_keepH [1, 2, 16] [11] rfl rfl rfl rfl (by rw [hF]; rfl) ?_
      exact TL_cast _ (by first | (rw [hq, Bool.false_or]; done) | (rw [hq]; rfl)) (hjj () trivial)
theorem c_impl_BothPolicies_1 (p0 : Int × Int) (p1 : Int) (p2_0 : List (List Int)) (p3_0 : List (List Int)) (out : (Int × Int) × Bool) (hm : m_impl_BothPolicies_1 p0 p1 p2_0 p3_0 = some out) : ACall Tryd.prog 37 [.agg [.int .i64 p0.1, .int .i64 p0.2], .int .i64 p1, .cp [.sl 1 (List.map aLa_i64 p2_0)], .cp [.sl 1 (List.map aLa_i64 p3_0)]] [] (.tup [.agg [.int .i64 out.1.1, .int .i64 out.1.2], .bool out.2]) [] := by
  refine ACall.intro Tryd.func37 rfl Tryd.ntmps37 rfl (fun F hF => ?_)
  unfold m_impl_BothPolicies_1 at hm
  refine T_seq ?_
  refine T_region ?_
  refine TL_box 11 rfl rfl rfl rfl rfl rfl rfl ?_
  refine TL_alloc 12 z63 rfl rfl rfl rfl rfl rfl rfl ?_
  refine TL_pure rfl rfl rfl rfl (op_assign rfl) ?_
  refine TL_nil ?_
  refine T_seq ?_
  refine T_drawZ [] mix (by kernel_rfl) rfl ?_
  obtain ⟨x14, hx14, hm⟩ := bindS hm
  obtain ⟨x17, hx17, hm⟩ := bindS hm
  obtain ⟨x23, hx23, hm⟩ := bindS hm
  obtain ⟨x26, hx26, hm⟩ := bindS hm
  refine TZ_pure 0 (by kernel_rfl) rfl rfl rfl rfl rfl (op_fieldAddr fa26_0 rfl rfl) ?_
  refine TZ_pure 1 (by kernel_rfl) rfl rfl rfl rfl rfl (op_load_one ag24 rfl rfl) ?_
  refine TZ_pure 2 (by kernel_rfl) rfl rfl rfl rfl rfl (op_indexA (i := 0) pa63 rfl rfl rfl rfl rfl) ?_
  refine TZ_pure 3 (by kernel_rfl) rfl rfl rfl rfl rfl (op_load_one ag2 rfl rfl) ?_
  refine TZ_pure 4 (by kernel_rfl) rfl rfl rfl rfl rfl (op_indexT el24 rfl rfl hx14 rfl) ?_
  refine TZ_pure 5 (by kernel_rfl) rfl rfl rfl rfl rfl (op_load_one ag29 rfl rfl) ?_
  refine TZ_pure 6 (by kernel_rfl) rfl rfl rfl rfl rfl (op_move rfl) ?_
  refine TZ_pure 7 (by kernel_rfl) rfl rfl rfl rfl rfl (op_indexT el29 rfl rfl hx17 rfl) ?_
  refine TZ_pure 8 (by kernel_rfl) rfl rfl rfl rfl rfl (op_load_one ag2 rfl rfl) ?_
  refine TZ_pure 9 (by kernel_rfl) rfl rfl rfl rfl rfl (op_fieldAddr fa26_0 rfl rfl) ?_
  refine TZ_pure 10 (by kernel_rfl) rfl rfl rfl rfl rfl (op_load_one ag24 rfl rfl) ?_
  refine TZ_pure 11 (by kernel_rfl) rfl rfl rfl rfl rfl (op_indexA (i := 1) pa63 rfl rfl rfl rfl rfl) ?_
  refine TZ_pure 12 (by kernel_rfl) rfl rfl rfl rfl rfl (op_load_one ag2 rfl rfl) ?_
  refine TZ_pure 13 (by kernel_rfl) rfl rfl rfl rfl rfl (op_indexT el24 rfl rfl hx23 rfl) ?_
  refine TZ_pure 14 (by kernel_rfl) rfl rfl rfl rfl rfl (op_load_one ag29 rfl rfl) ?_
  refine TZ_pure 15 (by kernel_rfl) rfl rfl rfl rfl rfl (op_move rfl) ?_
  refine TZ_pure 16 (by kernel_rfl) rfl rfl rfl rfl rfl (op_indexT el29 rfl rfl hx26 rfl) ?_
  refine TZ_pure 17 (by kernel_rfl) rfl rfl rfl rfl rfl (op_load_one ag2 rfl rfl) ?_
  refine TZ_pure 18 (by kernel_rfl) rfl rfl rfl rfl rfl (op_assign rfl) ?_
  refine TZ_pure 19 (by kernel_rfl) rfl rfl rfl rfl rfl (op_assign rfl) ?_
  refine TZ_done (by kernel_rfl) ?_
  refine T_seq ?_
  refine T_region ?_
  refine TL_pure rfl rfl rfl rfl (op_move rfl) ?_
  refine TL_pure rfl rfl rfl rfl (op_move rfl) ?_
  refine TL_pure rfl rfl rfl rfl (op_buildA pa63 z63 rfl rfl rfl rfl rfl) ?_
  refine TL_pure rfl rfl rfl rfl (op_move rfl) ?_
  refine TL_pure rfl rfl rfl rfl (op_geq rfl rfl) ?_
  refine TL_pure rfl rfl rfl rfl (op_move rfl) ?_
  refine TL_join 3 (fun _ : Unit => ⟨[(6, .ptr 12 0 0), (30, .agg [.int .i64 x17, .int .i64 x26]), (36, .bool ((decide ((0 : Int) ≤ x17)) && (decide ((0 : Int) ≤ x26))))], [(12, .box [.int .i64 (0 : Int), .int .i64 (0 : Int)])]⟩) (fun _ => True) (fun _ _ => ?_) (fun hjj => ?_)
  · refine TL_store_box sz63 rfl rfl rfl rfl rfl rfl rfl rfl rfl ?_
    refine TL_pure rfl rfl rfl rfl (op_assign rfl) ?_
    refine TL_nil ?_
    refine T_keepH [6, 7] [12] rfl rfl rfl rfl (by rw [hF]; rfl) ?_
    refine T_ret ?_
    obtain rfl := someI hm
    refine ⟨[_, _], [], ⟨⟨_, _, rfl, rfl, .inr ⟨ag63, _, _, sz63, rfl, rfl⟩⟩, rfl, trivial⟩, ?_, rfl, rfl, rfl, rfl⟩
    rfl
  · refine TL_split 33 rfl rfl rfl (fun hq => ?_) (fun hq => ?_)
    · refine TL_want rfl rfl ?_
      refine TL_pure rfl rfl rfl rfl (op_move rfl) ?_
      refine TL_want rfl rfl ?_
      refine TL_pure rfl rfl rfl rfl (op_geq rfl rfl) ?_
      refine TL_pure rfl rfl rfl rfl (op_pick_true rfl rfl) ?_
      refine TL_keepH [6, 30, 36] [12] rfl rfl rfl rfl (by rw [hF]; rfl) ?_
      exact TL_cast _ (by first | (rw [hq, Bool.true_and]; done) | (rw [hq]; rfl)) (hjj () trivial)
    · refine TL_pass rfl rfl rfl rfl rfl rfl rfl ?_
      refine TL_pass rfl rfl rfl rfl rfl rfl rfl ?_
      refine TL_pure rfl rfl rfl rfl (op_pick_false rfl rfl) ?_
      refine TL_keepH [6, 30, 36] [12] rfl rfl rfl rfl (by rw [hF]; rfl) ?_
      exact TL_cast _ (by first | (rw [hq, Bool.false_and]; done) | (rw [hq]; rfl)) (hjj () trivial)
theorem c_impl_grown_2_int64_fBothPolicies_1 (p0 : Int × Int) (v1_0_0 : List (List Int)) (v1_1_0 : List (List Int)) (out : List (List Int)) (hm : m_impl_grown_2_int64_fBothPolicies_1 p0 v1_0_0 v1_1_0 = some out) : ACall Tryd.prog 36 [.agg [.int .i64 p0.1, .int .i64 p0.2], .fn (.func 37) [] [.cp [.sl 1 (List.map aLa_i64 v1_0_0)], .cp [.sl 1 (List.map aLa_i64 v1_1_0)]]] [] (.ow 1000) [(1000, .arr ⟨false, true⟩ 1 29 (List.map aLa_i64 out))] := by
  refine ACall.intro Tryd.func36 rfl Tryd.ntmps36 rfl (fun F hF => ?_)
  unfold m_impl_grown_2_int64_fBothPolicies_1 at hm
  refine T_seq ?_
  refine T_region ?_
  refine TL_box 11 rfl rfl rfl rfl rfl rfl rfl ?_
  refine TL_pure rfl rfl rfl rfl (op_assign rfl) ?_
  refine TL_nil ?_
  refine T_seq ?_
  refine T_region ?_
  refine TL_makeMap (J := jk) 12 rfl rfl rfl rfl rfl rfl ?_
  refine TL_pure rfl rfl rfl rfl (op_load_agg ag63 sz63 rfl rfl rfl) ?_
  refine TL_mapIns (e := ([] : List ((Int × Int) × Int))) (f := aMaA2a_i64a_i64) (encK := aA2a_i64) (encV := a_i64) p0 (0 : Int) Tryd.underlying92 (key_pair Tryd.underlying63 Tryd.underlying2 sz2) (fun _ => rfl) rfl rfl rfl rfl rfl rfl rfl rfl rfl ?_
  refine TL_pure rfl rfl rfl rfl (op_move rfl) ?_
  refine TL_pure rfl rfl rfl rfl (op_assign rfl) ?_
  refine TL_nil ?_
  refine T_seq ?_
  refine T_region ?_
  refine TL_pure rfl rfl rfl rfl (op_load_agg ag63 sz63 rfl rfl rfl) ?_
  refine TL_buildSlice 13 (es := List.map aA2a_i64 [p0]) el93 z63 rfl rfl rfl rfl rfl rfl rfl rfl rfl ?_
  refine TL_pure rfl rfl rfl rfl (op_assign rfl) ?_
  refine TL_nil ?_
  refine T_seq ?_
  refine T_region ?_
  refine TL_pure rfl rfl rfl rfl (op_assign rfl) ?_
  refine TL_nil ?_
  refine T_seq ?_
  refine T_seq ?_
  refine T_region ?_
  refine TL_pure rfl rfl rfl rfl (op_assign rfl) ?_
  refine TL_nil ?_
  refine T_block ?_
  refine T_ownNil 7 75 ⟨false, true⟩ 29 rfl rfl (sz := 1) rfl rfl rfl ?_
  refine T_keepH [1, 5, 6, 7, 8] [12, 13, 75] rfl rfl rfl rfl (by rw [hF]; rfl) ?_
  refine T_ren [(12, 12), (13, 13), (75, 70002)] rfl rfl rfl (by rw [hF]; rfl) ?_
  refine T_loop ?_
  obtain ⟨u0, hl0, hm⟩ := bindS hm
  refine TR_iter2 (m_impl_grown_2_int64_fBothPolicies_1_L0 v1_0_0 v1_1_0) (fun (s0 : (List ((Int × Int) × Int)) × (List (Int × Int)) × (List (List Int)) × Int) => ⟨[(1, .fn (.func 37) [] [.cp [.sl 1 (List.map aLa_i64 v1_0_0)], .cp [.sl 1 (List.map aLa_i64 v1_1_0)]]), (5, .mp 12), (6, .ow 13), (7, .ow 70002), (8, .int .i64 s0.2.2.2)], [(12, .box (.tr (.tup (List.map aMaA2a_i64a_i64 s0.1)) :: jk)), (13, .arr ⟨false, false⟩ 2 63 (List.map aA2a_i64 s0.2.1)), (70002, .arr ⟨false, true⟩ 1 29 (List.map aLa_i64 s0.2.2.1))]⟩) (fun u0 => .exit 0) (fun u0 => ⟨[(7, .ow 70002)], [(70002, .arr ⟨false, true⟩ 1 29 (List.map aLa_i64 u0))]⟩) (fun u0 => m_impl_grown_2_int64_fBothPolicies_1_A0 u0 = some out) hl0 hm (fun u0 hm => ?_) (fun hx0 s0 c0 hm hc0 => ?_)
  · unfold m_impl_grown_2_int64_fBothPolicies_1_A0 at hm
    refine T_seq ?_
    refine T_region ?_
    refine TL_pure rfl rfl rfl rfl (op_move rfl) ?_
    refine TL_pure rfl rfl rfl rfl (op_assign rfl) ?_
    refine TL_nil ?_
    refine T_keepH [4] [70002] rfl rfl rfl rfl (by rw [hF]; rfl) ?_
    refine T_ren [(70002, 1000)] rfl rfl rfl (by rw [hF]; rfl) ?_
    refine T_ret ?_
    obtain rfl := someI hm
    refine ⟨[_], [1000], ⟨rfl, trivial⟩, ?_, rfl, rfl, rfl, rfl⟩
    rfl
  · unfold m_impl_grown_2_int64_fBothPolicies_1_L0 at hm
    refine T_seq ?_
    refine T_seq ?_
    refine T_region ?_
    refine TL_pure rfl rfl rfl rfl (op_move rfl) ?_
    refine TL_pure rfl rfl rfl rfl (op_move rfl) ?_
    refine TL_pure rfl rfl rfl rfl (op_lenO Tryd.underlying93 rfl rfl (List.length_map _)) ?_
    refine TL_fact (fun _ _ _ hr => RelP.owLen (id := 13) rfl hr) (fun hlen22 => ?_)
    rw [List.length_map] at hlen22
    refine TL_pure rfl rfl rfl rfl (op_lss rfl rfl) ?_
    refine TL_nil ?_
    refine T_cond rfl (fun hq => ?_) (fun hq => ?_)
    · replace hm := condT hq hm
      refine T_skip ?_
      refine T_seq ?_
      refine T_block ?_
      refine T_seq ?_
      refine T_region ?_
      refine TL_pure rfl rfl rfl rfl (op_assign rfl) ?_
      refine TL_nil ?_
      refine T_seq ?_
      refine T_seq ?_
      refine T_region ?_
      refine TL_pure rfl rfl rfl rfl (op_move rfl) ?_
      refine TL_nil ?_
      refine T_block ?_
      refine T_ownNil 9 74 ⟨false, false⟩ 2 rfl rfl (sz := 1) rfl rfl rfl ?_
      refine T_keepH [1, 5, 6, 7, 8, 9, 26] [12, 13, 74, 70002] rfl rfl rfl rfl (by rw [hF]; rfl) ?_
      refine T_ren [(12, 12), (13, 13), (74, 70003), (70002, 70002)] rfl rfl rfl (by rw [hF]; rfl) ?_
      refine T_keepH [1, 5, 6, 7, 8, 9, 26] [12, 13, 70002, 70003] rfl rfl rfl rfl (by rw [hF]; rfl) ?_
      refine T_loop ?_
      obtain ⟨u1, hl1, hm⟩ := bindS hm
      refine TR_forL2 (List.range 4) (m_impl_grown_2_int64_fBothPolicies_1_L1 v1_0_0 v1_1_0 s0) (fun (s1 : (List ((Int × Int) × Int)) × (List (Int × Int)) × (List Int)) => (s1.1, s1.2.1, s1.2.2)) (fun n1 (s1 : (List ((Int × Int) × Int)) × (List (Int × Int)) × (List Int)) => ⟨[(1, .fn (.func 37) [] [.cp [.sl 1 (List.map aLa_i64 v1_0_0)], .cp [.sl 1 (List.map aLa_i64 v1_1_0)]]), (5, .mp 12), (6, .ow 13), (7, .ow 70002), (8, .int .i64 s0.2.2.2), (9, .ow 70003), (26, .int .i64 (n1 : Int))], [(12, .box (.tr (.tup (List.map aMaA2a_i64a_i64 s1.1)) :: jk)), (13, .arr ⟨false, false⟩ 2 63 (List.map aA2a_i64 s1.2.1)), (70002, .arr ⟨false, true⟩ 1 29 (List.map aLa_i64 s0.2.2.1)), (70003, .arr ⟨false, false⟩ 1 2 (List.map a_i64 s1.2.2))]⟩) (fun u1 => .exit 2) (fun u1 => ⟨[(1, .fn (.func 37) [] [.cp [.sl 1 (List.map aLa_i64 v1_0_0)], .cp [.sl 1 (List.map aLa_i64 v1_1_0)]]), (5, .mp 12), (6, .ow 13), (7, .ow 70002), (8, .int .i64 s0.2.2.2), (9, .ow 70003)], [(12, .box (.tr (.tup (List.map aMaA2a_i64a_i64 u1.1)) :: jk)), (13, .arr ⟨false, false⟩ 2 63 (List.map aA2a_i64 u1.2.1)), (70002, .arr ⟨false, true⟩ 1 29 (List.map aLa_i64 s0.2.2.1)), (70003, .arr ⟨false, false⟩ 1 2 (List.map a_i64 u1.2.2))]⟩) (fun u1 => m_impl_grown_2_int64_fBothPolicies_1_A1 s0 u1 = some c0) hl1 hm (fun u1 hm => ?_) (fun hx1 s1 hm => ?_) (fun hx1 n1 x1 s1 c1 hxn1 hlt1 hm hc1 => ?_)
      · unfold m_impl_grown_2_int64_fBothPolicies_1_A1 at hm
        refine T_region ?_
        refine TL_pure rfl rfl rfl rfl (op_move rfl) ?_
        refine TL_pure rfl rfl rfl rfl (op_move rfl) ?_
        refine TL_deepen 70003 (p' := false) (List.map a_i64 u1.2.2) (by rw [hF]; rfl) rfl (ElR.map (f := a_i64) (g := a_i64) (fun _ => ⟨⟨rfl, rfl⟩, trivial⟩) u1.2.2) rfl rfl rfl ?_
        refine TL_buildSliceD (ids := [70003]) (es := List.map aLa_i64 [u1.2.2]) 73 el61 z29 rfl rfl rfl rfl rfl rfl (by rw [hF]; intro j hj; simp only [List.mem_cons, List.not_mem_nil, or_false] at hj; rcases hj with rfl <;> rfl) rfl rfl rfl rfl rfl rfl ?_
        obtain ⟨q70, hq70, hm⟩ := bindS hm
        refine TL_appendDT (f := aLa_i64) (a := s0.2.2.1) (b := [u1.2.2]) el61 z29 rfl rfl rfl rfl rfl rfl rfl rfl (by rw [hF]; rfl) (capI_spec hq70) rfl rfl rfl rfl rfl ?_
        refine TL_pure rfl rfl rfl rfl (op_assign rfl) ?_
        refine TL_nil ?_
        refine T_region ?_
        refine TL_pure rfl rfl rfl rfl (op_move rfl) ?_
        refine TL_pure rfl rfl rfl rfl (op_addW rfl rfl) ?_
        refine TL_pure rfl rfl rfl rfl (op_assign rfl) ?_
        refine TL_nil ?_
        refine TR_keepH [1, 5, 6, 7, 8] [12, 13, 70002] rfl rfl rfl rfl (by rw [hF]; rfl) ?_
        obtain rfl := someI hm
        have hn := CtlOK_next hc0
        exact hn _ rfl
      · refine T_seq ?_
        refine T_region ?_
        refine TL_pure rfl rfl rfl rfl (op_lss rfl rfl) ?_
        refine TL_nil ?_
        refine T_seq ?_
        refine T_if_false rfl (decide_eq_false (by simp)) ?_
        refine T_keepH [1, 5, 6, 7, 8, 9] [12, 13, 70002, 70003] rfl rfl rfl rfl (by rw [hF]; rfl) ?_
        refine T_exit ?_
        exact hx1 (s1.1, s1.2.1, s1.2.2) hm
      · unfold m_impl_grown_2_int64_fBothPolicies_1_L1 at hm
        refine T_seq ?_
        refine T_region ?_
        refine TL_pure rfl rfl rfl rfl (op_lss rfl rfl) ?_
        refine TL_nil ?_
        refine T_seq ?_
        refine T_if_true rfl (decide_eq_true (by have := hlt1; simp at this; omega)) ?_
        refine T_skip ?_
        refine T_seq ?_
        refine T_block ?_
        refine T_seq ?_
        refine T_region ?_
        refine TL_pure rfl rfl rfl rfl (op_move rfl) ?_
        refine TL_pure rfl rfl rfl rfl (op_assign rfl) ?_
        refine TL_nil ?_
        refine T_seq ?_
        refine T_region ?_
        refine TL_pure rfl rfl rfl rfl (op_move rfl) ?_
        refine TL_pure rfl rfl rfl rfl (op_move rfl) ?_
        refine TL_pure rfl rfl rfl rfl (op_move rfl) ?_
        obtain ⟨x33, hx33, hm⟩ := bindS hm
        refine TL_pure rfl rfl rfl rfl (op_indexO el93 rfl rfl rfl hx33) ?_
        refine TL_pure rfl rfl rfl rfl (op_loadTN ag63 sz63 rfl rfl ((getI_spec hx33).2) rfl rfl rfl) ?_
        refine TL_pure rfl rfl rfl rfl (op_move rfl) ?_
        obtain ⟨r36, hr36, hm⟩ := bindS hm
        refine TL_callVT rfl (ACall.F (F := F) (c_impl_BothPolicies_1 x33 (n1 : Int) v1_0_0 v1_1_0 r36 hr36)) Tryd.call37 rfl rfl rfl rfl rfl rfl ?_
        refine TL_pure rfl rfl rfl rfl (op_move rfl) ?_
        refine TL_pure rfl rfl rfl rfl (op_extract rfl rfl) ?_
        refine TL_pure rfl rfl rfl rfl (op_extract rfl rfl) ?_
        refine TL_alloc 68 z63 rfl rfl rfl rfl rfl rfl rfl ?_
        refine TL_store_box sz63 rfl rfl rfl rfl rfl rfl rfl rfl rfl ?_
        refine TL_pure rfl rfl rfl rfl (op_assign rfl) ?_
        refine TL_nil ?_
        refine T_seq ?_
        refine T_seq ?_
        refine T_region ?_
        refine TL_pure rfl rfl rfl rfl (op_move rfl) ?_
        refine TL_pure rfl rfl rfl rfl (op_not rfl) ?_
        refine TL_nil ?_
        refine T_cond rfl (fun hq => ?_) (fun hq => ?_)
        · replace hm := condT hq hm
          refine T_seq ?_
          refine T_region ?_
          refine TL_pure rfl rfl rfl rfl (op_move rfl) ?_
          refine TL_buildSlice 69 (es := List.map a_i64 [(-1 : Int)]) el29 z2 rfl rfl rfl rfl rfl rfl rfl rfl rfl ?_
          obtain ⟨q43, hq43, hm⟩ := bindS hm
          refine TL_appendT (f := a_i64) (a := s1.2.2) (b := [(-1 : Int)]) el29 z2 rfl rfl rfl rfl rfl rfl rfl (capI_spec hq43) rfl rfl rfl rfl rfl ?_
          refine TL_pure rfl rfl rfl rfl (op_assign rfl) ?_
          refine TL_nil ?_
          refine T_exit ?_
          refine T_region ?_
          refine TL_pure rfl rfl rfl rfl (op_addN rfl rfl (by have := hlt1; simp at this; omega)) ?_
          refine TL_pure rfl rfl rfl rfl (op_move rfl) ?_
          refine TL_nil ?_
          refine TR_keepH [1, 5, 6, 7, 8, 9, 26] [12, 13, 70002, 70003] rfl rfl rfl rfl (by rw [hF]; rfl) ?_
          obtain rfl := someI hm
          have hn := CtlOK_next hc1
          exact hn _ rfl
        · replace hm := condF hq hm
          refine T_skip ?_
          refine T_seq ?_
          refine T_region ?_
          refine TL_pure rfl rfl rfl rfl (op_move rfl) ?_
          refine TL_pure rfl rfl rfl rfl (op_load_agg ag63 sz63 rfl rfl rfl) ?_
          refine TL_pure rfl rfl rfl rfl (op_lookup (e := s1.1) (q := r36.1) (zr := (0 : Int)) (f := aMaA2a_i64a_i64) (encK := aA2a_i64) (encV := a_i64) true Tryd.underlying92 (key_pair Tryd.underlying63 Tryd.underlying2 sz2) (fun _ => rfl) z2 (zero_cav rfl) rfl rfl rfl rfl rfl) ?_
          refine TL_pure rfl rfl rfl rfl (op_move rfl) ?_
          refine TL_pure rfl rfl rfl rfl (op_extract rfl rfl) ?_
          refine TL_pure rfl rfl rfl rfl (op_extract rfl rfl) ?_
          refine TL_pure rfl rfl rfl rfl (op_assign rfl) ?_
          refine TL_pure rfl rfl rfl rfl (op_assign rfl) ?_
          refine TL_nil ?_
          refine T_seq ?_
          refine T_seq ?_
          refine T_region ?_
          refine TL_pure rfl rfl rfl rfl (op_move rfl) ?_
          refine TL_pure rfl rfl rfl rfl (op_not rfl) ?_
          refine TL_nil ?_
          refine T_cond rfl (fun hq => ?_) (fun hq => ?_)
          · replace hm := condT hq hm
            refine T_seq ?_
            refine T_region ?_
            refine TL_pure rfl rfl rfl rfl (op_move rfl) ?_
            refine TL_pure rfl rfl rfl rfl (op_lenO Tryd.underlying93 rfl rfl (List.length_map _)) ?_
            refine TL_fact (fun _ _ _ hr => RelP.owLen (id := 13) rfl hr) (fun hlen53 => ?_)
            rw [List.length_map] at hlen53
            obtain ⟨r54, hr54, hm⟩ := bindS hm
            refine TL_callF (ACall.F (F := F) (c_impl_size (s1.2.1.length : Int) r54 hr54)) Tryd.call59 rfl rfl rfl rfl rfl ?_
            refine TL_pure rfl rfl rfl rfl (op_assign rfl) ?_
            refine TL_nil ?_
            refine T_seq ?_
            refine T_region ?_
            refine TL_pure rfl rfl rfl rfl (op_move rfl) ?_
            refine TL_pure rfl rfl rfl rfl (op_load_agg ag63 sz63 rfl rfl rfl) ?_
            refine TL_pure rfl rfl rfl rfl (op_move rfl) ?_
            refine TL_mapSet (e := s1.1) (f := aMaA2a_i64a_i64) (encK := aA2a_i64) (encV := a_i64) r36.1 r54 Tryd.underlying92 (key_pair Tryd.underlying63 Tryd.underlying2 sz2) (fun _ => rfl) rfl rfl rfl rfl rfl rfl rfl rfl rfl ?_
            refine TL_nil ?_
            refine T_region ?_
            refine TL_pure rfl rfl rfl rfl (op_move rfl) ?_
            refine TL_pure rfl rfl rfl rfl (op_load_agg ag63 sz63 rfl rfl rfl) ?_
            refine TL_buildSlice 70 (es := List.map aA2a_i64 [r36.1]) el93 z63 rfl rfl rfl rfl rfl rfl rfl rfl rfl ?_
            obtain ⟨q61, hq61, hm⟩ := bindS hm
            refine TL_appendT (f := aA2a_i64) (a := s1.2.1) (b := [r36.1]) el93 z63 rfl rfl rfl rfl rfl rfl rfl (capI_spec hq61) rfl rfl rfl rfl rfl ?_
            refine TL_pure rfl rfl rfl rfl (op_assign rfl) ?_
            refine TL_nil ?_
            refine T_region ?_
            refine TL_pure rfl rfl rfl rfl (op_move rfl) ?_
            refine TL_pure rfl rfl rfl rfl (op_move rfl) ?_
            refine TL_buildSlice 71 (es := List.map a_i64 [r54]) el29 z2 rfl rfl rfl rfl rfl rfl rfl rfl rfl ?_
            obtain ⟨q65, hq65, hm⟩ := bindS hm
            refine TL_appendT (f := a_i64) (a := s1.2.2) (b := [r54]) el29 z2 rfl rfl rfl rfl rfl rfl rfl (capI_spec hq65) rfl rfl rfl rfl rfl ?_
            refine TL_pure rfl rfl rfl rfl (op_assign rfl) ?_
            refine TL_nil ?_
            refine T_region ?_
            refine TL_pure rfl rfl rfl rfl (op_addN rfl rfl (by have := hlt1; simp at this; omega)) ?_
            refine TL_pure rfl rfl rfl rfl (op_move rfl) ?_
            refine TL_nil ?_
            refine TR_keepH [1, 5, 6, 7, 8, 9, 26] [12, 13, 70002, 70003] rfl rfl rfl rfl (by rw [hF]; rfl) ?_
            obtain rfl := someI hm
            have hn := CtlOK_next hc1
            exact hn _ rfl
          · replace hm := condF hq hm
            refine T_skip ?_
            refine T_region ?_
            refine TL_pure rfl rfl rfl rfl (op_move rfl) ?_
            refine TL_pure rfl rfl rfl rfl (op_move rfl) ?_
            refine TL_buildSlice 72 (es := List.map a_i64 [((mget s1.1 r36.1).getD (0 : Int))]) el29 z2 rfl rfl rfl rfl rfl rfl rfl rfl rfl ?_
            obtain ⟨q65, hq65, hm⟩ := bindS hm
            refine TL_appendT (f := a_i64) (a := s1.2.2) (b := [((mget s1.1 r36.1).getD (0 : Int))]) el29 z2 rfl rfl rfl rfl rfl rfl rfl (capI_spec hq65) rfl rfl rfl rfl rfl ?_
            refine TL_pure rfl rfl rfl rfl (op_assign rfl) ?_
            refine TL_nil ?_
            refine T_region ?_
            refine TL_pure rfl rfl rfl rfl (op_addN rfl rfl (by have := hlt1; simp at this; omega)) ?_
            refine TL_pure rfl rfl rfl rfl (op_move rfl) ?_
            refine TL_nil ?_
            refine TR_keepH [1, 5, 6, 7, 8, 9, 26] [12, 13, 70002, 70003] rfl rfl rfl rfl (by rw [hF]; rfl) ?_
            obtain rfl := someI hm
            have hn := CtlOK_next hc1
            exact hn _ rfl
    · replace hm := condF hq hm
      refine T_keepH [7] [70002] rfl rfl rfl rfl (by rw [hF]; rfl) ?_
      refine T_exit ?_
      obtain rfl := someI hm
      have hn := CtlOK_out hc0
      exact hx0 s0.2.2.1 hn
theorem c_impl_Decimal (p0 : Int) (out : List UInt8) (hm : m_impl_Decimal p0 = some out) : ACallG gl Tryd.prog 62 [.int .i64 p0] [] (.str out) [] := by
  refine ACallG.intro (g := gl) Tryd.func62 rfl Tryd.ntmps62 rfl (fun F hF hI hg => ?_)
  unfold m_impl_Decimal at hm
  refine T_seq ?_
  refine T_region ?_
  refine TL_pure rfl rfl rfl rfl (op_assign rfl) ?_
  refine TL_nil ?_
  refine T_seq ?_
  refine T_region ?_
  refine TL_pure rfl rfl rfl rfl (op_move rfl) ?_
  obtain ⟨r4, hr4, hm⟩ := bindS hm
  refine TL_callF (ACallG.F hI hg (c_strconv_FormatInt p0 (10 : Int) r4 hr4)) Tryd.call81 rfl rfl rfl rfl rfl ?_
  refine TL_pure rfl rfl rfl rfl (op_assign rfl) ?_
  refine TL_nil ?_
  refine T_keepH [2] [] rfl rfl rfl rfl (by rw [hF]; rfl) ?_
  refine T_ret ?_
  obtain rfl := someI hm
  refine ⟨[_], [], ⟨rfl, trivial⟩, ?_, rfl, rfl, rfl, rfl⟩
  rfl
theorem c_impl_graph_minimal_1 (p0 : Int) (p1 : Int) (p2_0 : List (List Int)) (p3_0 : List Int) (p4_0 : List Int) (out : Int × Bool) (hm : m_impl_graph_minimal_1 p0 p1 p2_0 p3_0 p4_0 = some out) : ACall Tryd.prog 64 [.int .i64 p0, .int .i64 p1, .cp [.sl 1 (List.map aLa_i64 p2_0)], .cp [.sl 1 (List.map a_i64 p3_0)], .cp [.sl 1 (List.map a_i64 p4_0)]] [] (.tup [.int .i64 out.1, .bool out.2]) [] := by
  refine ACall.intro Tryd.func64 rfl Tryd.ntmps64 rfl (fun F hF => ?_)
  unfold m_impl_graph_minimal_1 at hm
  refine T_seq ?_
  refine T_region ?_
  refine TL_pure rfl rfl rfl rfl (op_assign rfl) ?_
  refine TL_pure rfl rfl rfl rfl (op_assign rfl) ?_
  refine TL_nil ?_
  refine T_seq ?_
  refine T_drawZ [] mix (by kernel_rfl) rfl ?_
  obtain ⟨x13, hx13, hm⟩ := bindS hm
  obtain ⟨x15, hx15, hm⟩ := bindS hm
  obtain ⟨x18, hx18, hm⟩ := bindS hm
  refine TZ_pure 0 (by kernel_rfl) rfl rfl rfl rfl rfl (op_load_one ag61 rfl rfl) ?_
  refine TZ_pure 1 (by kernel_rfl) rfl rfl rfl rfl rfl (op_load_one ag97 rfl rfl) ?_
  refine TZ_pure 2 (by kernel_rfl) rfl rfl rfl rfl rfl (op_move rfl) ?_
  refine TZ_pure 3 (by kernel_rfl) rfl rfl rfl rfl rfl (op_indexT el97 rfl rfl hx13 rfl) ?_
  refine TZ_pure 4 (by kernel_rfl) rfl rfl rfl rfl rfl (op_load_one ag3 rfl rfl) ?_
  refine TZ_pure 5 (by kernel_rfl) rfl rfl rfl rfl rfl (op_indexT el61 rfl rfl hx15 rfl) ?_
  refine TZ_pure 6 (by kernel_rfl) rfl rfl rfl rfl rfl (op_load_one ag29 rfl rfl) ?_
  refine TZ_pure 7 (by kernel_rfl) rfl rfl rfl rfl rfl (op_move rfl) ?_
  refine TZ_pure 8 (by kernel_rfl) rfl rfl rfl rfl rfl (op_indexT el29 rfl rfl hx18 rfl) ?_
  refine TZ_pure 9 (by kernel_rfl) rfl rfl rfl rfl rfl (op_load_one ag2 rfl rfl) ?_
  refine TZ_pure 10 (by kernel_rfl) rfl rfl rfl rfl rfl (op_assign rfl) ?_
  refine TZ_done (by kernel_rfl) ?_
  refine T_seq ?_
  refine T_seq ?_
  refine T_region ?_
  refine TL_pure rfl rfl rfl rfl (op_move rfl) ?_
  refine TL_pure rfl rfl rfl rfl (op_lss rfl rfl) ?_
  refine TL_nil ?_
  refine T_cond rfl (fun hq => ?_) (fun hq => ?_)
  · replace hm := condT hq hm
    refine T_seq ?_
    refine T_region ?_
    refine TL_pure rfl rfl rfl rfl (op_assign rfl) ?_
    refine TL_pure rfl rfl rfl rfl (op_assign rfl) ?_
    refine TL_nil ?_
    refine T_keepH [7, 8] [] rfl rfl rfl rfl (by rw [hF]; rfl) ?_
    refine T_ret ?_
    obtain rfl := someI hm
    refine ⟨[_, _], [], ⟨rfl, rfl, trivial⟩, ?_, rfl, rfl, rfl, rfl⟩
    rfl
  · replace hm := condF hq hm
    refine T_skip ?_
    refine T_seq ?_
    refine T_region ?_
    refine TL_pure rfl rfl rfl rfl (op_load_one ag29 rfl rfl) ?_
    refine TL_pure rfl rfl rfl rfl (op_move rfl) ?_
    obtain ⟨x24, hx24, hm⟩ := bindS hm
    refine TL_pure rfl rfl rfl rfl (op_indexT el29 rfl rfl hx24 rfl) ?_
    refine TL_pure rfl rfl rfl rfl (op_load_one ag2 rfl rfl) ?_
    refine TL_pure rfl rfl rfl rfl (op_assign rfl) ?_
    refine TL_pure rfl rfl rfl rfl (op_assign rfl) ?_
    refine TL_nil ?_
    refine T_keepH [7, 8] [] rfl rfl rfl rfl (by rw [hF]; rfl) ?_
    refine T_ret ?_
    obtain rfl := someI hm
    refine ⟨[_, _], [], ⟨rfl, rfl, trivial⟩, ?_, rfl, rfl, rfl, rfl⟩
    rfl
theorem c_impl_grown_int64_fminimal_1 (p0 : Int) (v1_0_0 : List (List Int)) (v1_1_0 : List Int) (v1_2_0 : List Int) (out : List (List Int)) (hm : m_impl_grown_int64_fminimal_1 p0 v1_0_0 v1_1_0 v1_2_0 = some out) : ACall Tryd.prog 63 [.int .i64 p0, .fn (.func 64) [] [.cp [.sl 1 (List.map aLa_i64 v1_0_0)], .cp [.sl 1 (List.map a_i64 v1_1_0)], .cp [.sl 1 (List.map a_i64 v1_2_0)]]] [] (.ow 1000) [(1000, .arr ⟨false, true⟩ 1 29 (List.map aLa_i64 out))] := by
  refine ACall.intro Tryd.func63 rfl Tryd.ntmps63 rfl (fun F hF => ?_)
  unfold m_impl_grown_int64_fminimal_1 at hm
  refine T_seq ?_
  refine T_region ?_
  refine TL_pure rfl rfl rfl rfl (op_assign rfl) ?_
  refine TL_nil ?_
  refine T_seq ?_
  refine T_region ?_
  refine TL_makeMap (J := jk) 11 rfl rfl rfl rfl rfl rfl ?_
  refine TL_pure rfl rfl rfl rfl (op_move rfl) ?_
  refine TL_mapIns (e := ([] : List (Int × Int))) (f := aMa_i64a_i64) (encK := a_i64) (encV := a_i64) p0 (0 : Int) Tryd.underlying119 (key_i64 Tryd.underlying2) (fun _ => rfl) rfl rfl rfl rfl rfl rfl rfl rfl rfl ?_
  refine TL_pure rfl rfl rfl rfl (op_move rfl) ?_
  refine TL_pure rfl rfl rfl rfl (op_assign rfl) ?_
  refine TL_nil ?_
  refine T_seq ?_
  refine T_region ?_
  refine TL_pure rfl rfl rfl rfl (op_move rfl) ?_
  refine TL_buildSlice 12 (es := List.map a_i64 [p0]) el29 z2 rfl rfl rfl rfl rfl rfl rfl rfl rfl ?_
  refine TL_pure rfl rfl rfl rfl (op_assign rfl) ?_
  refine TL_nil ?_
  refine T_seq ?_
  refine T_region ?_
  refine TL_pure rfl rfl rfl rfl (op_assign rfl) ?_
  refine TL_nil ?_
  refine T_seq ?_
  refine T_seq ?_
  refine T_region ?_
  refine TL_pure rfl rfl rfl rfl (op_assign rfl) ?_
  refine TL_nil ?_
  refine T_block ?_
  refine T_ownNil 7 65 ⟨false, true⟩ 29 rfl rfl (sz := 1) rfl rfl rfl ?_
  refine T_keepH [1, 5, 6, 7, 8] [11, 12, 65] rfl rfl rfl rfl (by rw [hF]; rfl) ?_
  refine T_ren [(11, 11), (12, 12), (65, 70002)] rfl rfl rfl (by rw [hF]; rfl) ?_
  refine T_loop ?_
  obtain ⟨u0, hl0, hm⟩ := bindS hm
  refine TR_iter2 (m_impl_grown_int64_fminimal_1_L0 v1_0_0 v1_1_0 v1_2_0) (fun (s0 : (List (Int × Int)) × (List Int) × (List (List Int)) × Int) => ⟨[(1, .fn (.func 64) [] [.cp [.sl 1 (List.map aLa_i64 v1_0_0)], .cp [.sl 1 (List.map a_i64 v1_1_0)], .cp [.sl 1 (List.map a_i64 v1_2_0)]]), (5, .mp 11), (6, .ow 12), (7, .ow 70002), (8, .int .i64 s0.2.2.2)], [(11, .box (.tr (.tup (List.map aMa_i64a_i64 s0.1)) :: jk)), (12, .arr ⟨false, false⟩ 1 2 (List.map a_i64 s0.2.1)), (70002, .arr ⟨false, true⟩ 1 29 (List.map aLa_i64 s0.2.2.1))]⟩) (fun u0 => .exit 0) (fun u0 => ⟨[(7, .ow 70002)], [(70002, .arr ⟨false, true⟩ 1 29 (List.map aLa_i64 u0))]⟩) (fun u0 => m_impl_grown_int64_fminimal_1_A0 u0 = some out) hl0 hm (fun u0 hm => ?_) (fun hx0 s0 c0 hm hc0 => ?_)
  · unfold m_impl_grown_int64_fminimal_1_A0 at hm
    refine T_seq ?_
    refine T_region ?_
    refine TL_pure rfl rfl rfl rfl (op_move rfl) ?_
    refine TL_pure rfl rfl rfl rfl (op_assign rfl) ?_
    refine TL_nil ?_
    refine T_keepH [4] [70002] rfl rfl rfl rfl (by rw [hF]; rfl) ?_
    refine T_ren [(70002, 1000)] rfl rfl rfl (by rw [hF]; rfl) ?_
    refine T_ret ?_
    obtain rfl := someI hm
    refine ⟨[_], [1000], ⟨rfl, trivial⟩, ?_, rfl, rfl, rfl, rfl⟩
    rfl
  · unfold m_impl_grown_int64_fminimal_1_L0 at hm
    refine T_seq ?_
    refine T_seq ?_
    refine T_region ?_
    refine TL_pure rfl rfl rfl rfl (op_move rfl) ?_
    refine TL_pure rfl rfl rfl rfl (op_move rfl) ?_
    refine TL_pure rfl rfl rfl rfl (op_lenO Tryd.underlying29 rfl rfl (List.length_map _)) ?_
    refine TL_fact (fun _ _ _ hr => RelP.owLen (id := 12) rfl hr) (fun hlen22 => ?_)
    rw [List.length_map] at hlen22
    refine TL_pure rfl rfl rfl rfl (op_lss rfl rfl) ?_
    refine TL_nil ?_
    refine T_cond rfl (fun hq => ?_) (fun hq => ?_)
    · replace hm := condT hq hm
      refine T_skip ?_
      refine T_seq ?_
      refine T_block ?_
      refine T_seq ?_
      refine T_region ?_
      refine TL_pure rfl rfl rfl rfl (op_assign rfl) ?_
      refine TL_nil ?_
      refine T_seq ?_
      refine T_seq ?_
      refine T_region ?_
      refine TL_pure rfl rfl rfl rfl (op_move rfl) ?_
      refine TL_nil ?_
      refine T_block ?_
      refine T_ownNil 9 64 ⟨false, false⟩ 2 rfl rfl (sz := 1) rfl rfl rfl ?_
      refine T_keepH [1, 5, 6, 7, 8, 9, 26] [11, 12, 64, 70002] rfl rfl rfl rfl (by rw [hF]; rfl) ?_
      refine T_ren [(11, 11), (12, 12), (64, 70003), (70002, 70002)] rfl rfl rfl (by rw [hF]; rfl) ?_
      refine T_keepH [1, 5, 6, 7, 8, 9, 26] [11, 12, 70002, 70003] rfl rfl rfl rfl (by rw [hF]; rfl) ?_
      refine T_loop ?_
      obtain ⟨u1, hl1, hm⟩ := bindS hm
      refine TR_forL2 (List.range 4) (m_impl_grown_int64_fminimal_1_L1 v1_0_0 v1_1_0 v1_2_0 s0) (fun (s1 : (List (Int × Int)) × (List Int) × (List Int)) => (s1.1, s1.2.1, s1.2.2)) (fun n1 (s1 : (List (Int × Int)) × (List Int) × (List Int)) => ⟨[(1, .fn (.func 64) [] [.cp [.sl 1 (List.map aLa_i64 v1_0_0)], .cp [.sl 1 (List.map a_i64 v1_1_0)], .cp [.sl 1 (List.map a_i64 v1_2_0)]]), (5, .mp 11), (6, .ow 12), (7, .ow 70002), (8, .int .i64 s0.2.2.2), (9, .ow 70003), (26, .int .i64 (n1 : Int))], [(11, .box (.tr (.tup (List.map aMa_i64a_i64 s1.1)) :: jk)), (12, .arr ⟨false, false⟩ 1 2 (List.map a_i64 s1.2.1)), (70002, .arr ⟨false, true⟩ 1 29 (List.map aLa_i64 s0.2.2.1)), (70003, .arr ⟨false, false⟩ 1 2 (List.map a_i64 s1.2.2))]⟩) (fun u1 => .exit 2) (fun u1 => ⟨[(1, .fn (.func 64) [] [.cp [.sl 1 (List.map aLa_i64 v1_0_0)], .cp [.sl 1 (List.map a_i64 v1_1_0)], .cp [.sl 1 (List.map a_i64 v1_2_0)]]), (5, .mp 11), (6, .ow 12), (7, .ow 70002), (8, .int .i64 s0.2.2.2), (9, .ow 70003)], [(11, .box (.tr (.tup (List.map aMa_i64a_i64 u1.1)) :: jk)), (12, .arr ⟨false, false⟩ 1 2 (List.map a_i64 u1.2.1)), (70002, .arr ⟨false, true⟩ 1 29 (List.map aLa_i64 s0.2.2.1)), (70003, .arr ⟨false, false⟩ 1 2 (List.map a_i64 u1.2.2))]⟩) (fun u1 => m_impl_grown_int64_fminimal_1_A1 s0 u1 = some c0) hl1 hm (fun u1 hm => ?_) (fun hx1 s1 hm => ?_) (fun hx1 n1 x1 s1 c1 hxn1 hlt1 hm hc1 => ?_)
      · unfold m_impl_grown_int64_fminimal_1_A1 at hm
        refine T_region ?_
        refine TL_pure rfl rfl rfl rfl (op_move rfl) ?_
        refine TL_pure rfl rfl rfl rfl (op_move rfl) ?_
        refine TL_deepen 70003 (p' := false) (List.map a_i64 u1.2.2) (by rw [hF]; rfl) rfl (ElR.map (f := a_i64) (g := a_i64) (fun _ => ⟨⟨rfl, rfl⟩, trivial⟩) u1.2.2) rfl rfl rfl ?_
        refine TL_buildSliceD (ids := [70003]) (es := List.map aLa_i64 [u1.2.2]) 63 el61 z29 rfl rfl rfl rfl rfl rfl (by rw [hF]; intro j hj; simp only [List.mem_cons, List.not_mem_nil, or_false] at hj; rcases hj with rfl <;> rfl) rfl rfl rfl rfl rfl rfl ?_
        obtain ⟨q70, hq70, hm⟩ := bindS hm
        refine TL_appendDT (f := aLa_i64) (a := s0.2.2.1) (b := [u1.2.2]) el61 z29 rfl rfl rfl rfl rfl rfl rfl rfl (by rw [hF]; rfl) (capI_spec hq70) rfl rfl rfl rfl rfl ?_
        refine TL_pure rfl rfl rfl rfl (op_assign rfl) ?_
        refine TL_nil ?_
        refine T_region ?_
        refine TL_pure rfl rfl rfl rfl (op_move rfl) ?_
        refine TL_pure rfl rfl rfl rfl (op_addW rfl rfl) ?_
        refine TL_pure rfl rfl rfl rfl (op_assign rfl) ?_
        refine TL_nil ?_
        refine TR_keepH [1, 5, 6, 7, 8] [11, 12, 70002] rfl rfl rfl rfl (by rw [hF]; rfl) ?_
        obtain rfl := someI hm
        have hn := CtlOK_next hc0
        exact hn _ rfl
      · refine T_seq ?_
        refine T_region ?_
        refine TL_pure rfl rfl rfl rfl (op_lss rfl rfl) ?_
        refine TL_nil ?_
        refine T_seq ?_
        refine T_if_false rfl (decide_eq_false (by simp)) ?_
        refine T_keepH [1, 5, 6, 7, 8, 9] [11, 12, 70002, 70003] rfl rfl rfl rfl (by rw [hF]; rfl) ?_
        refine T_exit ?_
        exact hx1 (s1.1, s1.2.1, s1.2.2) hm
      · unfold m_impl_grown_int64_fminimal_1_L1 at hm
        refine T_seq ?_
        refine T_region ?_
        refine TL_pure rfl rfl rfl rfl (op_lss rfl rfl) ?_
        refine TL_nil ?_
        refine T_seq ?_
        refine T_if_true rfl (decide_eq_true (by have := hlt1; simp at this; omega)) ?_
        refine T_skip ?_
        refine T_seq ?_
        refine T_block ?_
        refine T_seq ?_
        refine T_region ?_
        refine TL_pure rfl rfl rfl rfl (op_move rfl) ?_
        refine TL_pure rfl rfl rfl rfl (op_assign rfl) ?_
        refine TL_nil ?_
        refine T_seq ?_
        refine T_region ?_
        refine TL_pure rfl rfl rfl rfl (op_move rfl) ?_
        refine TL_pure rfl rfl rfl rfl (op_move rfl) ?_
        refine TL_pure rfl rfl rfl rfl (op_move rfl) ?_
        obtain ⟨x33, hx33, hm⟩ := bindS hm
        refine TL_pure rfl rfl rfl rfl (op_indexO el29 rfl rfl rfl hx33) ?_
        refine TL_pure rfl rfl rfl rfl (op_loadT1 ag2 rfl rfl ((getI_spec hx33).2) rfl rfl) ?_
        refine TL_pure rfl rfl rfl rfl (op_move rfl) ?_
        obtain ⟨r36, hr36, hm⟩ := bindS hm
        refine TL_callV rfl (ACall.F (F := F) (c_impl_graph_minimal_1 x33 (n1 : Int) v1_0_0 v1_1_0 v1_2_0 r36 hr36)) Tryd.call64 rfl rfl rfl rfl rfl ?_
        refine TL_pure rfl rfl rfl rfl (op_move rfl) ?_
        refine TL_pure rfl rfl rfl rfl (op_extract rfl rfl) ?_
        refine TL_pure rfl rfl rfl rfl (op_extract rfl rfl) ?_
        refine TL_pure rfl rfl rfl rfl (op_assign rfl) ?_
        refine TL_pure rfl rfl rfl rfl (op_assign rfl) ?_
        refine TL_nil ?_
        refine T_seq ?_
        refine T_seq ?_
        refine T_region ?_
        refine TL_pure rfl rfl rfl rfl (op_move rfl) ?_
        refine TL_pure rfl rfl rfl rfl (op_not rfl) ?_
        refine TL_nil ?_
        refine T_cond rfl (fun hq => ?_) (fun hq => ?_)
        · replace hm := condT hq hm
          refine T_seq ?_
          refine T_region ?_
          refine TL_pure rfl rfl rfl rfl (op_move rfl) ?_
          refine TL_buildSlice 59 (es := List.map a_i64 [(-1 : Int)]) el29 z2 rfl rfl rfl rfl rfl rfl rfl rfl rfl ?_
          obtain ⟨q43, hq43, hm⟩ := bindS hm
          refine TL_appendT (f := a_i64) (a := s1.2.2) (b := [(-1 : Int)]) el29 z2 rfl rfl rfl rfl rfl rfl rfl (capI_spec hq43) rfl rfl rfl rfl rfl ?_
          refine TL_pure rfl rfl rfl rfl (op_assign rfl) ?_
          refine TL_nil ?_
          refine T_exit ?_
          refine T_region ?_
          refine TL_pure rfl rfl rfl rfl (op_addN rfl rfl (by have := hlt1; simp at this; omega)) ?_
          refine TL_pure rfl rfl rfl rfl (op_move rfl) ?_
          refine TL_nil ?_
          refine TR_keepH [1, 5, 6, 7, 8, 9, 26] [11, 12, 70002, 70003] rfl rfl rfl rfl (by rw [hF]; rfl) ?_
          obtain rfl := someI hm
          have hn := CtlOK_next hc1
          exact hn _ rfl
        · replace hm := condF hq hm
          refine T_skip ?_
          refine T_seq ?_
          refine T_region ?_
          refine TL_pure rfl rfl rfl rfl (op_move rfl) ?_
          refine TL_pure rfl rfl rfl rfl (op_move rfl) ?_
          refine TL_pure rfl rfl rfl rfl (op_lookup (e := s1.1) (q := r36.1) (zr := (0 : Int)) (f := aMa_i64a_i64) (encK := a_i64) (encV := a_i64) true Tryd.underlying119 (key_i64 Tryd.underlying2) (fun _ => rfl) z2 (zero_cav rfl) rfl rfl rfl rfl rfl) ?_
          refine TL_pure rfl rfl rfl rfl (op_move rfl) ?_
          refine TL_pure rfl rfl rfl rfl (op_extract rfl rfl) ?_
          refine TL_pure rfl rfl rfl rfl (op_extract rfl rfl) ?_
          refine TL_pure rfl rfl rfl rfl (op_assign rfl) ?_
          refine TL_pure rfl rfl rfl rfl (op_assign rfl) ?_
          refine TL_nil ?_
          refine T_seq ?_
          refine T_seq ?_
          refine T_region ?_
          refine TL_pure rfl rfl rfl rfl (op_move rfl) ?_
          refine TL_pure rfl rfl rfl rfl (op_not rfl) ?_
          refine TL_nil ?_
          refine T_cond rfl (fun hq => ?_) (fun hq => ?_)
          · replace hm := condT hq hm
            refine T_seq ?_
            refine T_region ?_
            refine TL_pure rfl rfl rfl rfl (op_move rfl) ?_
            refine TL_pure rfl rfl rfl rfl (op_lenO Tryd.underlying29 rfl rfl (List.length_map _)) ?_
            refine TL_fact (fun _ _ _ hr => RelP.owLen (id := 12) rfl hr) (fun hlen53 => ?_)
            rw [List.length_map] at hlen53
            obtain ⟨r54, hr54, hm⟩ := bindS hm
            refine TL_callF (ACall.F (F := F) (c_impl_size (s1.2.1.length : Int) r54 hr54)) Tryd.call59 rfl rfl rfl rfl rfl ?_
            refine TL_pure rfl rfl rfl rfl (op_assign rfl) ?_
            refine TL_nil ?_
            refine T_seq ?_
            refine T_region ?_
            refine TL_pure rfl rfl rfl rfl (op_move rfl) ?_
            refine TL_pure rfl rfl rfl rfl (op_move rfl) ?_
            refine TL_pure rfl rfl rfl rfl (op_move rfl) ?_
            refine TL_mapSet (e := s1.1) (f := aMa_i64a_i64) (encK := a_i64) (encV := a_i64) r36.1 r54 Tryd.underlying119 (key_i64 Tryd.underlying2) (fun _ => rfl) rfl rfl rfl rfl rfl rfl rfl rfl rfl ?_
            refine TL_nil ?_
            refine T_region ?_
            refine TL_pure rfl rfl rfl rfl (op_move rfl) ?_
            refine TL_pure rfl rfl rfl rfl (op_move rfl) ?_
            refine TL_buildSlice 60 (es := List.map a_i64 [r36.1]) el29 z2 rfl rfl rfl rfl rfl rfl rfl rfl rfl ?_
            obtain ⟨q61, hq61, hm⟩ := bindS hm
            refine TL_appendT (f := a_i64) (a := s1.2.1) (b := [r36.1]) el29 z2 rfl rfl rfl rfl rfl rfl rfl (capI_spec hq61) rfl rfl rfl rfl rfl ?_
            refine TL_pure rfl rfl rfl rfl (op_assign rfl) ?_
            refine TL_nil ?_
            refine T_region ?_
            refine TL_pure rfl rfl rfl rfl (op_move rfl) ?_
            refine TL_pure rfl rfl rfl rfl (op_move rfl) ?_
            refine TL_buildSlice 61 (es := List.map a_i64 [r54]) el29 z2 rfl rfl rfl rfl rfl rfl rfl rfl rfl ?_
            obtain ⟨q65, hq65, hm⟩ := bindS hm
            refine TL_appendT (f := a_i64) (a := s1.2.2) (b := [r54]) el29 z2 rfl rfl rfl rfl rfl rfl rfl (capI_spec hq65) rfl rfl rfl rfl rfl ?_
            refine TL_pure rfl rfl rfl rfl (op_assign rfl) ?_
            refine TL_nil ?_
            refine T_region ?_
            refine TL_pure rfl rfl rfl rfl (op_addN rfl rfl (by have := hlt1; simp at this; omega)) ?_
            refine TL_pure rfl rfl rfl rfl (op_move rfl) ?_
            refine TL_nil ?_
            refine TR_keepH [1, 5, 6, 7, 8, 9, 26] [11, 12, 70002, 70003] rfl rfl rfl rfl (by rw [hF]; rfl) ?_
            obtain rfl := someI hm
            have hn := CtlOK_next hc1
            exact hn _ rfl
          · replace hm := condF hq hm
            refine T_skip ?_
            refine T_region ?_
            refine TL_pure rfl rfl rfl rfl (op_move rfl) ?_
            refine TL_pure rfl rfl rfl rfl (op_move rfl) ?_
            refine TL_buildSlice 62 (es := List.map a_i64 [((mget s1.1 r36.1).getD (0 : Int))]) el29 z2 rfl rfl rfl rfl rfl rfl rfl rfl rfl ?_
            obtain ⟨q65, hq65, hm⟩ := bindS hm
            refine TL_appendT (f := a_i64) (a := s1.2.2) (b := [((mget s1.1 r36.1).getD (0 : Int))]) el29 z2 rfl rfl rfl rfl rfl rfl rfl (capI_spec hq65) rfl rfl rfl rfl rfl ?_
            refine TL_pure rfl rfl rfl rfl (op_assign rfl) ?_
            refine TL_nil ?_
            refine T_region ?_
            refine TL_pure rfl rfl rfl rfl (op_addN rfl rfl (by have := hlt1; simp at this; omega)) ?_
            refine TL_pure rfl rfl rfl rfl (op_move rfl) ?_
            refine TL_nil ?_
            refine TR_keepH [1, 5, 6, 7, 8, 9, 26] [11, 12, 70002, 70003] rfl rfl rfl rfl (by rw [hF]; rfl) ?_
            obtain rfl := someI hm
            have hn := CtlOK_next hc1
            exact hn _ rfl
    · replace hm := condF hq hm
      refine T_keepH [7] [70002] rfl rfl rfl rfl (by rw [hF]; rfl) ?_
      refine T_exit ?_
      obtain rfl := someI hm
      have hn := CtlOK_out hc0
      exact hx0 s0.2.2.1 hn
theorem c_impl_graph_minimal (p0 : List (List Int)) (out : List (List Int)) (hm : m_impl_graph_minimal p0 = some out) : ACallG gl Tryd.prog 38 [.sl 1 (List.map aLa_i64 p0)] [] (.ow 1000) [(1000, .arr ⟨false, true⟩ 1 29 (List.map aLa_i64 out))] := by
  refine ACallG.intro (g := gl) Tryd.func38 rfl Tryd.ntmps38 rfl (fun F hF hI hg => ?_)
  unfold m_impl_graph_minimal at hm
  refine T_seq ?_
  refine T_region ?_
  refine TL_box 11 rfl rfl rfl rfl rfl rfl rfl ?_
  refine TL_pure rfl rfl rfl rfl (op_assign rfl) ?_
  refine TL_nil ?_
  refine T_seq ?_
  refine T_region ?_
  refine TL_pure rfl rfl rfl rfl (op_load_one ag61 rfl rfl) ?_
  refine TL_pure rfl rfl rfl rfl (op_lenT Tryd.underlying61 rfl (List.length_map _)) ?_
  refine TL_fact (fun _ _ _ hr => RelP.slLen (i := 17) rfl hr) (fun hlen18 => ?_)
  rw [List.length_map] at hlen18
  obtain ⟨k19, hk19, hm⟩ := bindS hm
  refine TL_make 12 (n := k19) el29 z2 rfl rfl rfl rfl rfl rfl (makeI_spec hk19).1 (makeI_spec hk19).1 (makeI_spec hk19).2 rfl rfl rfl rfl ?_
  refine TL_nils 12 (List.map a_i64 (List.replicate k19 (0 : Int))) (by rw [hF]; rfl) rfl (ElR.rep (z := .int .i64 (0 : Int)) (g := a_i64) (x := (0 : Int)) ⟨⟨rfl, rfl⟩, trivial⟩ k19) rfl ?_
  refine TL_alloc 13 z29 rfl rfl rfl rfl rfl rfl rfl ?_
  refine TL_store_box sz29 rfl rfl rfl rfl rfl rfl rfl rfl rfl ?_
  refine TL_nil ?_
  refine T_seq ?_
  refine T_seq ?_
  refine T_region ?_
  refine TL_pure rfl rfl rfl rfl (op_assign rfl) ?_
  refine TL_nil ?_
  refine T_block ?_
  refine T_keepH [1, 3, 4] [11, 12, 13] rfl rfl rfl rfl (by rw [hF]; rfl) ?_
  refine T_loop ?_
  obtain ⟨u0, hl0, hm⟩ := bindS hm
  refine TR_iter2 (m_impl_graph_minimal_L0 p0) (fun (s0 : (List Int) × Int) => ⟨[(1, .ptr 11 0 0), (3, .ptr 13 0 0), (4, .int .i64 s0.2)], [(11, .box [.sl 1 (List.map aLa_i64 p0)]), (12, .arr ⟨false, false⟩ 1 2 (List.map a_i64 s0.1)), (13, .box [.ow 12])]⟩) (fun u0 => .exit 0) (fun u0 => ⟨[(1, .ptr 11 0 0), (3, .ptr 13 0 0)], [(11, .box [.sl 1 (List.map aLa_i64 p0)]), (13, .box [.ow 17]), (17, .arr ⟨false, false⟩ 1 2 (List.map a_i64 u0))]⟩) (fun u0 => m_impl_graph_minimal_A0 p0 u0 = some out) hl0 hm (fun u0 hm => ?_) (fun hx0 s0 c0 hm hc0 => ?_)
  · unfold m_impl_graph_minimal_A0 at hm
    refine T_seq ?_
    refine T_region ?_
    refine TL_pure rfl rfl rfl rfl (op_load_one ag61 rfl rfl) ?_
    refine TL_pure rfl rfl rfl rfl (op_lenT Tryd.underlying61 rfl (List.length_map _)) ?_
    obtain ⟨k83, hk83, hm⟩ := bindS hm
    refine TL_make 20 (n := k83) el97 z3 rfl rfl rfl rfl rfl rfl (makeI_spec hk83).1 (makeI_spec hk83).1 (makeI_spec hk83).2 rfl rfl rfl rfl ?_
    refine TL_nils 20 (List.map a_i64 (List.replicate k83 (0 : Int))) (by rw [hF]; rfl) rfl (ElR.rep (z := .int .i64 (0 : Int)) (g := a_i64) (x := (0 : Int)) ⟨⟨rfl, rfl⟩, trivial⟩ k83) rfl ?_
    refine TL_alloc 21 z97 rfl rfl rfl rfl rfl rfl rfl ?_
    refine TL_store_box sz97 rfl rfl rfl rfl rfl rfl rfl rfl rfl ?_
    refine TL_nil ?_
    refine T_seq ?_
    refine T_seq ?_
    refine T_region ?_
    refine TL_pure rfl rfl rfl rfl (op_load_one ag29 rfl rfl) ?_
    refine TL_pure rfl rfl rfl rfl (op_lenO Tryd.underlying29 rfl rfl (List.length_map _)) ?_
    refine TL_fact (fun _ _ _ hr => RelP.owLen (id := 17) rfl hr) (fun hlen85 => ?_)
    rw [List.length_map] at hlen85
    refine TL_pure rfl rfl rfl rfl (op_move rfl) ?_
    refine TL_nil ?_
    refine T_block ?_
    refine T_keepH [1, 3, 14, 84, 85, 86] [11, 13, 17, 20, 21] rfl rfl rfl rfl (by rw [hF]; rfl) ?_
    refine T_loop ?_
    obtain ⟨u3, hl3, hm⟩ := bindS hm
    refine TR_forL2 u0 (m_impl_graph_minimal_L3) (fun (s3 : List Int) => s3) (fun n3 (s3 : List Int) => ⟨[(1, .ptr 11 0 0), (3, .ptr 13 0 0), (14, .ptr 21 0 0), (84, .ow 17), (85, .int .i64 (u0.length : Int)), (86, .int .i64 (n3 : Int))], [(11, .box [.sl 1 (List.map aLa_i64 p0)]), (13, .box [.ow 17]), (17, .arr ⟨false, false⟩ 1 2 (List.map a_i64 u0)), (20, .arr ⟨false, false⟩ 1 3 (List.map a_i64 s3)), (21, .box [.ow 20])]⟩) (fun u3 => .exit 6) (fun u3 => ⟨[(1, .ptr 11 0 0), (3, .ptr 13 0 0), (14, .ptr 21 0 0)], [(11, .box [.sl 1 (List.map aLa_i64 p0)]), (13, .box [.ow 17]), (17, .arr ⟨false, false⟩ 1 2 (List.map a_i64 u0)), (20, .arr ⟨false, false⟩ 1 3 (List.map a_i64 u3)), (21, .box [.ow 20])]⟩) (fun u3 => m_impl_graph_minimal_A3 p0 u0 u3 = some out) hl3 hm (fun u3 hm => ?_) (fun hx3 s3 hm => ?_) (fun hx3 n3 x3 s3 c3 hxn3 hlt3 hm hc3 => ?_)
    · unfold m_impl_graph_minimal_A3 at hm
      refine T_seq ?_
      refine T_region ?_
      refine TL_pure rfl rfl rfl rfl (op_load_one ag29 rfl rfl) ?_
      obtain ⟨x97, hx97, hm⟩ := bindS hm
      refine TL_pure rfl rfl rfl rfl (op_indexO el29 rfl rfl rfl hx97) ?_
      refine TL_pure rfl rfl rfl rfl (op_loadT1 ag2 rfl rfl ((getI_spec hx97).2) rfl rfl) ?_
      refine TL_freezeB 11 (by rw [hF]; rfl) rfl rfl rfl rfl ?_
      refine TL_freeze 20 (by rw [hF]; rfl) rfl rfl rfl ?_
      refine TL_freezeB 21 (by rw [hF]; rfl) rfl rfl rfl rfl ?_
      refine TL_freeze 17 (by rw [hF]; rfl) rfl rfl rfl ?_
      refine TL_freezeB 13 (by rw [hF]; rfl) rfl rfl rfl rfl ?_
      refine TL_pure rfl rfl rfl rfl (op_makeFunc rfl rfl) ?_
      obtain ⟨r100, hr100, hm⟩ := bindS hm
      refine TL_callO [(1000, 22)] (ACall.F (F := F) (c_impl_grown_int64_fminimal_1 x97 p0 u3 u0 r100 hr100)) Tryd.call63 rfl rfl rfl rfl rfl rfl rfl rfl rfl rfl rfl rfl rfl ?_
      refine TL_pure rfl rfl rfl rfl (op_assign rfl) ?_
      refine TL_nil ?_
      refine T_keepH [2] [22] rfl rfl rfl rfl (by rw [hF]; rfl) ?_
      refine T_ren [(22, 1000)] rfl rfl rfl (by rw [hF]; rfl) ?_
      refine T_ret ?_
      obtain rfl := someI hm
      refine ⟨[_], [1000], ⟨rfl, trivial⟩, ?_, rfl, rfl, rfl, rfl⟩
      rfl
    · refine T_seq ?_
      refine T_region ?_
      refine TL_pure rfl rfl rfl rfl (op_lss rfl rfl) ?_
      refine TL_nil ?_
      refine T_seq ?_
      refine T_if_false rfl (decide_eq_false (by simp)) ?_
      refine T_keepH [1, 3, 14] [11, 13, 17, 20, 21] rfl rfl rfl rfl (by rw [hF]; rfl) ?_
      refine T_exit ?_
      exact hx3 s3 hm
    · unfold m_impl_graph_minimal_L3 at hm
      refine T_seq ?_
      refine T_region ?_
      refine TL_pure rfl rfl rfl rfl (op_lss rfl rfl) ?_
      refine TL_nil ?_
      refine T_seq ?_
      refine T_if_true rfl (decide_eq_true (Int.ofNat_lt.2 hlt3)) ?_
      refine T_skip ?_
      refine T_seq ?_
      refine T_block ?_
      refine T_seq ?_
      refine T_region ?_
      refine TL_pure rfl rfl rfl rfl (op_move rfl) ?_
      refine TL_pure rfl rfl rfl rfl (op_index_ow el29 rfl rfl rfl rfl (by simpa using (List.getElem?_eq_some_iff.1 hxn3).1)) ?_
      refine TL_pure rfl rfl rfl rfl (op_loadT1 ag2 rfl rfl (hxn3) rfl rfl) ?_
      refine TL_pure rfl rfl rfl rfl (op_assign rfl) ?_
      refine TL_pure rfl rfl rfl rfl (op_assign rfl) ?_
      refine TL_nil ?_
      refine T_region ?_
      refine TL_pure rfl rfl rfl rfl (op_load_one ag97 rfl rfl) ?_
      refine TL_pure rfl rfl rfl rfl (op_move rfl) ?_
      refine TL_pure rfl rfl rfl rfl (op_move rfl) ?_
      obtain ⟨x94, hx94, hm⟩ := bindS hm
      refine TL_pure rfl rfl rfl rfl (op_indexO el97 rfl rfl rfl hx94) ?_
      refine TL_storeT sz3 rfl rfl ((getI_spec hx94).2) (v' := (n3 : Int)) rfl rfl rfl rfl rfl rfl rfl rfl rfl rfl ?_
      refine TL_nil ?_
      refine T_region ?_
      refine TL_pure rfl rfl rfl rfl (op_addN rfl rfl (Nat.lt_of_lt_of_le hlt3 hlen85)) ?_
      refine TL_pure rfl rfl rfl rfl (op_move rfl) ?_
      refine TL_nil ?_
      refine TR_keepH [1, 3, 14, 84, 85, 86] [11, 13, 17, 20, 21] rfl rfl rfl rfl (by rw [hF]; rfl) ?_
      obtain rfl := someI hm
      have hn := CtlOK_next hc3
      exact hn _ rfl
  · unfold m_impl_graph_minimal_L0 at hm
    refine T_block ?_
    refine T_seq ?_
    refine T_region ?_
    refine TL_makeMap (J := jk) 18 rfl rfl rfl rfl rfl rfl ?_
    refine TL_pure rfl rfl rfl rfl (op_assign rfl) ?_
    refine TL_nil ?_
    refine T_seq ?_
    refine T_region ?_
    refine TL_pure rfl rfl rfl rfl (op_load_one ag61 rfl rfl) ?_
    refine TL_pure rfl rfl rfl rfl (op_lenT Tryd.underlying61 rfl (List.length_map _)) ?_
    obtain ⟨k23, hk23, hm⟩ := bindS hm
    refine TL_make 19 (n := k23) el29 z2 rfl rfl rfl rfl rfl rfl (makeI_spec hk23).1 (makeI_spec hk23).1 (makeI_spec hk23).2 rfl rfl rfl rfl ?_
    refine TL_nils 19 (List.map a_i64 (List.replicate k23 (0 : Int))) (by rw [hF]; rfl) rfl (ElR.rep (z := .int .i64 (0 : Int)) (g := a_i64) (x := (0 : Int)) ⟨⟨rfl, rfl⟩, trivial⟩ k23) rfl ?_
    refine TL_pure rfl rfl rfl rfl (op_assign rfl) ?_
    refine TL_nil ?_
    refine T_seq ?_
    refine T_seq ?_
    refine T_region ?_
    refine TL_pure rfl rfl rfl rfl (op_load_one ag61 rfl rfl) ?_
    refine TL_pure rfl rfl rfl rfl (op_lenT Tryd.underlying61 rfl (List.length_map _)) ?_
    refine TL_pure rfl rfl rfl rfl (op_move rfl) ?_
    refine TL_nil ?_
    refine T_block ?_
    refine T_keepH [1, 3, 4, 5, 6, 24, 25, 26] [11, 12, 13, 18, 19] rfl rfl rfl rfl (by rw [hF]; rfl) ?_
    refine T_loop ?_
    obtain ⟨u1, hl1, hm⟩ := bindS hm
    refine TR_forL2 p0 (m_impl_graph_minimal_L1 s0) (fun (s1 : (List ((List UInt8) × Int)) × (List Int)) => (s1.1, s1.2)) (fun n1 (s1 : (List ((List UInt8) × Int)) × (List Int)) => ⟨[(1, .ptr 11 0 0), (3, .ptr 13 0 0), (4, .int .i64 s0.2), (5, .mp 18), (6, .ow 19), (24, .sl 1 (List.map aLa_i64 p0)), (25, .int .i64 (p0.length : Int)), (26, .int .i64 (n1 : Int))], [(11, .box [.sl 1 (List.map aLa_i64 p0)]), (12, .arr ⟨false, false⟩ 1 2 (List.map a_i64 s0.1)), (13, .box [.ow 12]), (18, .box (.tr (.tup (List.map aMa_stra_i64 s1.1)) :: jk)), (19, .arr ⟨false, false⟩ 1 2 (List.map a_i64 s1.2))]⟩) (fun u1 => .exit 2) (fun u1 => ⟨[(1, .ptr 11 0 0), (3, .ptr 13 0 0), (4, .int .i64 s0.2), (5, .mp 18), (6, .ow 19)], [(11, .box [.sl 1 (List.map aLa_i64 p0)]), (12, .arr ⟨false, false⟩ 1 2 (List.map a_i64 s0.1)), (13, .box [.ow 12]), (18, .box (.tr (.tup (List.map aMa_stra_i64 u1.1)) :: jk)), (19, .arr ⟨false, false⟩ 1 2 (List.map a_i64 u1.2))]⟩) (fun u1 => m_impl_graph_minimal_A1 s0 u1 = some c0) hl1 hm (fun u1 hm => ?_) (fun hx1 s1 hm => ?_) (fun hx1 n1 x1 s1 c1 hxn1 hlt1 hm hc1 => ?_)
    · unfold m_impl_graph_minimal_A1 at hm
      refine T_seq ?_
      refine T_region ?_
      refine TL_pure rfl rfl rfl rfl (op_move rfl) ?_
      refine TL_store_box sz29 rfl rfl rfl rfl rfl rfl rfl rfl rfl ?_
      refine TL_nil ?_
      refine T_seq ?_
      refine T_seq ?_
      refine T_region ?_
      refine TL_pure rfl rfl rfl rfl (op_move rfl) ?_
      refine TL_lenM (e := u1.1) (f := aMa_stra_i64) (encK := a_str) (encV := a_i64) Tryd.underlying95 (key_str Tryd.underlying9) (fun _ => rfl) rfl rfl rfl rfl rfl ?_
      refine TL_pure rfl rfl rfl rfl (op_move rfl) ?_
      refine TL_pure rfl rfl rfl rfl (op_eql rfl rfl) ?_
      refine TL_nil ?_
      refine T_cond rfl (fun hq => ?_) (fun hq => ?_)
      · replace hm := condT hq hm
        refine T_keepH [1, 3] [11, 13, 19] rfl rfl rfl rfl (by rw [hF]; rfl) ?_
        refine T_ren [(11, 11), (13, 13), (19, 17)] rfl rfl rfl (by rw [hF]; rfl) ?_
        refine T_exit ?_
        obtain rfl := someI hm
        have hn := CtlOK_out hc0
        exact hx0 u1.2 hn
      · replace hm := condF hq hm
        refine T_skip ?_
        refine T_region ?_
        refine TL_pure rfl rfl rfl rfl (op_move rfl) ?_
        refine TL_lenM (e := u1.1) (f := aMa_stra_i64) (encK := a_str) (encV := a_i64) Tryd.underlying95 (key_str Tryd.underlying9) (fun _ => rfl) rfl rfl rfl rfl rfl ?_
        refine TL_pure rfl rfl rfl rfl (op_assign rfl) ?_
        refine TL_nil ?_
        refine TR_keepH [1, 3, 4] [11, 13, 19] rfl rfl rfl rfl (by rw [hF]; rfl) ?_
        refine TR_ren [(11, 11), (13, 13), (19, 12)] rfl rfl rfl (by rw [hF]; rfl) ?_
        refine TR_keepH [1, 3, 4] [11, 12, 13] rfl rfl rfl rfl (by rw [hF]; rfl) ?_
        obtain rfl := someI hm
        have hn := CtlOK_next hc0
        exact hn _ rfl
    · refine T_seq ?_
      refine T_region ?_
      refine TL_pure rfl rfl rfl rfl (op_lss rfl rfl) ?_
      refine TL_nil ?_
      refine T_seq ?_
      refine T_if_false rfl (decide_eq_false (by simp)) ?_
      refine T_keepH [1, 3, 4, 5, 6] [11, 12, 13, 18, 19] rfl rfl rfl rfl (by rw [hF]; rfl) ?_
      refine T_exit ?_
      exact hx1 (s1.1, s1.2) hm
    · unfold m_impl_graph_minimal_L1 at hm
      refine T_seq ?_
      refine T_region ?_
      refine TL_pure rfl rfl rfl rfl (op_lss rfl rfl) ?_
      refine TL_nil ?_
      refine T_seq ?_
      refine T_if_true rfl (decide_eq_true (Int.ofNat_lt.2 hlt1)) ?_
      refine T_skip ?_
      refine T_seq ?_
      refine T_block ?_
      refine T_seq ?_
      refine T_region ?_
      refine TL_pure rfl rfl rfl rfl (op_move rfl) ?_
      refine TL_pure rfl rfl rfl rfl (op_index_sl el61 rfl rfl rfl (get_map hxn1) rfl) ?_
      refine TL_pure rfl rfl rfl rfl (op_load_one ag29 rfl rfl) ?_
      refine TL_pure rfl rfl rfl rfl (op_assign rfl) ?_
      refine TL_pure rfl rfl rfl rfl (op_assign rfl) ?_
      refine TL_nil ?_
      refine T_seq ?_
      refine T_region ?_
      refine TL_pure rfl rfl rfl rfl (op_load_one ag29 rfl rfl) ?_
      refine TL_pure rfl rfl rfl rfl (op_move rfl) ?_
      obtain ⟨x33, hx33, hm⟩ := bindS hm
      refine TL_pure rfl rfl rfl rfl (op_indexO el29 rfl rfl rfl hx33) ?_
      refine TL_pure rfl rfl rfl rfl (op_loadT1 ag2 rfl rfl ((getI_spec hx33).2) rfl rfl) ?_
      obtain ⟨r35, hr35, hm⟩ := bindS hm
      refine TL_callF (ACallG.F hI hg (c_impl_Decimal x33 r35 hr35)) Tryd.call62 rfl rfl rfl rfl rfl ?_
      refine TL_pure rfl rfl rfl rfl (op_assign rfl) ?_
      refine TL_nil ?_
      refine T_seq ?_
      refine T_seq ?_
      refine T_region ?_
      refine TL_pure rfl rfl rfl rfl (op_move rfl) ?_
      refine TL_pure rfl rfl rfl rfl (op_lenT Tryd.underlying29 rfl (List.length_map _)) ?_
      refine TL_fact (fun _ _ _ hr => RelP.slLen (i := 36) rfl hr) (fun hlen37 => ?_)
      rw [List.length_map] at hlen37
      refine TL_pure rfl rfl rfl rfl (op_move rfl) ?_
      refine TL_nil ?_
      refine T_block ?_
      refine T_keepH [1, 3, 4, 5, 6, 7, 9, 24, 25, 26, 36, 37, 38] [11, 12, 13, 18, 19] rfl rfl rfl rfl (by rw [hF]; rfl) ?_
      refine T_loop ?_
      obtain ⟨u2, hl2, hm⟩ := bindS hm
      refine TR_forL2 x1 (m_impl_graph_minimal_L2 s0) (fun (s2 : List UInt8) => s2) (fun n2 (s2 : List UInt8) => ⟨[(1, .ptr 11 0 0), (3, .ptr 13 0 0), (4, .int .i64 s0.2), (5, .mp 18), (6, .ow 19), (7, .int .i64 (n1 : Int)), (9, .str s2), (24, .sl 1 (List.map aLa_i64 p0)), (25, .int .i64 (p0.length : Int)), (26, .int .i64 (n1 : Int)), (36, .sl 1 (List.map a_i64 x1)), (37, .int .i64 (x1.length : Int)), (38, .int .i64 (n2 : Int))], [(11, .box [.sl 1 (List.map aLa_i64 p0)]), (12, .arr ⟨false, false⟩ 1 2 (List.map a_i64 s0.1)), (13, .box [.ow 12]), (18, .box (.tr (.tup (List.map aMa_stra_i64 s1.1)) :: jk)), (19, .arr ⟨false, false⟩ 1 2 (List.map a_i64 s1.2))]⟩) (fun u2 => .exit 4) (fun u2 => ⟨[(1, .ptr 11 0 0), (3, .ptr 13 0 0), (4, .int .i64 s0.2), (5, .mp 18), (6, .ow 19), (7, .int .i64 (n1 : Int)), (9, .str u2), (24, .sl 1 (List.map aLa_i64 p0)), (25, .int .i64 (p0.length : Int)), (26, .int .i64 (n1 : Int))], [(11, .box [.sl 1 (List.map aLa_i64 p0)]), (12, .arr ⟨false, false⟩ 1 2 (List.map a_i64 s0.1)), (13, .box [.ow 12]), (18, .box (.tr (.tup (List.map aMa_stra_i64 s1.1)) :: jk)), (19, .arr ⟨false, false⟩ 1 2 (List.map a_i64 s1.2))]⟩) (fun u2 => m_impl_graph_minimal_A2 s1 n1 u2 = some c1) hl2 hm (fun u2 hm => ?_) (fun hx2 s2 hm => ?_) (fun hx2 n2 x2 s2 c2 hxn2 hlt2 hm hc2 => ?_)
      · unfold m_impl_graph_minimal_A2 at hm
        refine T_seq ?_
        refine T_region ?_
        refine TL_pure rfl rfl rfl rfl (op_move rfl) ?_
        refine TL_pure rfl rfl rfl rfl (op_move rfl) ?_
        refine TL_pure rfl rfl rfl rfl (op_lookup (e := s1.1) (q := u2) (zr := (0 : Int)) (f := aMa_stra_i64) (encK := a_str) (encV := a_i64) true Tryd.underlying95 (key_str Tryd.underlying9) (fun _ => rfl) z2 (zero_cav rfl) rfl rfl rfl rfl rfl) ?_
        refine TL_pure rfl rfl rfl rfl (op_move rfl) ?_
        refine TL_pure rfl rfl rfl rfl (op_extract rfl rfl) ?_
        refine TL_pure rfl rfl rfl rfl (op_extract rfl rfl) ?_
        refine TL_pure rfl rfl rfl rfl (op_assign rfl) ?_
        refine TL_pure rfl rfl rfl rfl (op_assign rfl) ?_
        refine TL_nil ?_
        refine T_seq ?_
        refine T_seq ?_
        refine T_region ?_
        refine TL_pure rfl rfl rfl rfl (op_move rfl) ?_
        refine TL_pure rfl rfl rfl rfl (op_not rfl) ?_
        refine TL_nil ?_
        refine T_cond rfl (fun hq => ?_) (fun hq => ?_)
        · replace hm := condT hq hm
          refine T_seq ?_
          refine T_region ?_
          refine TL_pure rfl rfl rfl rfl (op_move rfl) ?_
          refine TL_lenM (e := s1.1) (f := aMa_stra_i64) (encK := a_str) (encV := a_i64) Tryd.underlying95 (key_str Tryd.underlying9) (fun _ => rfl) rfl rfl rfl rfl rfl ?_
          obtain ⟨r65, hr65, hm⟩ := bindS hm
          refine TL_callF (ACall.F (F := F) (c_impl_size (s1.1.length : Int) r65 hr65)) Tryd.call59 rfl rfl rfl rfl rfl ?_
          refine TL_pure rfl rfl rfl rfl (op_assign rfl) ?_
          refine TL_nil ?_
          refine T_region ?_
          refine TL_pure rfl rfl rfl rfl (op_move rfl) ?_
          refine TL_pure rfl rfl rfl rfl (op_move rfl) ?_
          refine TL_pure rfl rfl rfl rfl (op_move rfl) ?_
          refine TL_mapSet (e := s1.1) (f := aMa_stra_i64) (encK := a_str) (encV := a_i64) u2 r65 Tryd.underlying95 (key_str Tryd.underlying9) (fun _ => rfl) rfl rfl rfl rfl rfl rfl rfl rfl rfl ?_
          refine TL_nil ?_
          refine T_region ?_
          refine TL_pure rfl rfl rfl rfl (op_move rfl) ?_
          refine TL_pure rfl rfl rfl rfl (op_move rfl) ?_
          refine TL_pure rfl rfl rfl rfl (op_move rfl) ?_
          obtain ⟨x72, hx72, hm⟩ := bindS hm
          refine TL_pure rfl rfl rfl rfl (op_indexO el29 rfl rfl rfl hx72) ?_
          refine TL_storeT sz2 rfl rfl ((getI_spec hx72).2) (v' := r65) rfl rfl rfl rfl rfl rfl rfl rfl rfl rfl ?_
          refine TL_nil ?_
          refine T_region ?_
          refine TL_pure rfl rfl rfl rfl (op_addN rfl rfl (Nat.lt_of_lt_of_le hlt1 hlen18)) ?_
          refine TL_pure rfl rfl rfl rfl (op_move rfl) ?_
          refine TL_nil ?_
          refine TR_keepH [1, 3, 4, 5, 6, 24, 25, 26] [11, 12, 13, 18, 19] rfl rfl rfl rfl (by rw [hF]; rfl) ?_
          obtain rfl := someI hm
          have hn := CtlOK_next hc1
          exact hn _ rfl
        · replace hm := condF hq hm
          refine T_skip ?_
          refine T_region ?_
          refine TL_pure rfl rfl rfl rfl (op_move rfl) ?_
          refine TL_pure rfl rfl rfl rfl (op_move rfl) ?_
          refine TL_pure rfl rfl rfl rfl (op_move rfl) ?_
          obtain ⟨x72, hx72, hm⟩ := bindS hm
          refine TL_pure rfl rfl rfl rfl (op_indexO el29 rfl rfl rfl hx72) ?_
          refine TL_storeT sz2 rfl rfl ((getI_spec hx72).2) (v' := ((mget s1.1 u2).getD (0 : Int))) rfl rfl rfl rfl rfl rfl rfl rfl rfl rfl ?_
          refine TL_nil ?_
          refine T_region ?_
          refine TL_pure rfl rfl rfl rfl (op_addN rfl rfl (Nat.lt_of_lt_of_le hlt1 hlen18)) ?_
          refine TL_pure rfl rfl rfl rfl (op_move rfl) ?_
          refine TL_nil ?_
          refine TR_keepH [1, 3, 4, 5, 6, 24, 25, 26] [11, 12, 13, 18, 19] rfl rfl rfl rfl (by rw [hF]; rfl) ?_
          obtain rfl := someI hm
          have hn := CtlOK_next hc1
          exact hn _ rfl
      · refine T_seq ?_
        refine T_region ?_
        refine TL_pure rfl rfl rfl rfl (op_lss rfl rfl) ?_
        refine TL_nil ?_
        refine T_seq ?_
        refine T_if_false rfl (decide_eq_false (by simp)) ?_
        refine T_keepH [1, 3, 4, 5, 6, 7, 9, 24, 25, 26] [11, 12, 13, 18, 19] rfl rfl rfl rfl (by rw [hF]; rfl) ?_
        refine T_exit ?_
        exact hx2 s2 hm
      · unfold m_impl_graph_minimal_L2 at hm
        refine T_seq ?_
        refine T_region ?_
        refine TL_pure rfl rfl rfl rfl (op_lss rfl rfl) ?_
        refine TL_nil ?_
        refine T_seq ?_
        refine T_if_true rfl (decide_eq_true (Int.ofNat_lt.2 hlt2)) ?_
        refine T_skip ?_
        refine T_seq ?_
        refine T_block ?_
        refine T_seq ?_
        refine T_region ?_
        refine TL_pure rfl rfl rfl rfl (op_index_sl el29 rfl rfl rfl (get_map hxn2) rfl) ?_
        refine TL_pure rfl rfl rfl rfl (op_load_one ag2 rfl rfl) ?_
        refine TL_pure rfl rfl rfl rfl (op_assign rfl) ?_
        refine TL_nil ?_
        refine T_seq ?_
        refine T_region ?_
        refine TL_pure rfl rfl rfl rfl (op_move rfl) ?_
        refine TL_pure rfl rfl rfl rfl (op_lss rfl rfl) ?_
        refine TL_nil ?_
        refine T_cond rfl (fun hq => ?_) (fun hq => ?_)
        · replace hm := condT hq hm
          refine T_region ?_
          refine TL_pure rfl rfl rfl rfl (op_move rfl) ?_
          obtain ⟨q45, hq45, hm⟩ := bindS hm
          refine TL_pure rfl rfl rfl rfl (op_addS rfl rfl (strI_spec hq45)) ?_
          refine TL_pure rfl rfl rfl rfl (op_assign rfl) ?_
          refine TL_nil ?_
          refine T_region ?_
          refine TL_pure rfl rfl rfl rfl (op_addN rfl rfl (Nat.lt_of_lt_of_le hlt2 hlen37)) ?_
          refine TL_pure rfl rfl rfl rfl (op_move rfl) ?_
          refine TL_nil ?_
          refine TR_keepH [1, 3, 4, 5, 6, 7, 9, 24, 25, 26, 36, 37, 38] [11, 12, 13, 18, 19] rfl rfl rfl rfl (by rw [hF]; rfl) ?_
          obtain rfl := someI hm
          have hn := CtlOK_next hc2
          exact hn _ rfl
        · replace hm := condF hq hm
          refine T_region ?_
          refine TL_pure rfl rfl rfl rfl (op_move rfl) ?_
          refine TL_pure rfl rfl rfl rfl (op_load_one ag29 rfl rfl) ?_
          refine TL_pure rfl rfl rfl rfl (op_move rfl) ?_
          obtain ⟨x49, hx49, hm⟩ := bindS hm
          refine TL_pure rfl rfl rfl rfl (op_indexO el29 rfl rfl rfl hx49) ?_
          refine TL_pure rfl rfl rfl rfl (op_loadT1 ag2 rfl rfl ((getI_spec hx49).2) rfl rfl) ?_
          obtain ⟨r51, hr51, hm⟩ := bindS hm
          refine TL_callF (ACallG.F hI hg (c_impl_Decimal x49 r51 hr51)) Tryd.call62 rfl rfl rfl rfl rfl ?_
          obtain ⟨q52, hq52, hm⟩ := bindS hm
          refine TL_pure rfl rfl rfl rfl (op_addS rfl rfl (strI_spec hq52)) ?_
          obtain ⟨q53, hq53, hm⟩ := bindS hm
          refine TL_pure rfl rfl rfl rfl (op_addS rfl rfl (strI_spec hq53)) ?_
          refine TL_pure rfl rfl rfl rfl (op_assign rfl) ?_
          refine TL_nil ?_
          refine T_region ?_
          refine TL_pure rfl rfl rfl rfl (op_addN rfl rfl (Nat.lt_of_lt_of_le hlt2 hlen37)) ?_
          refine TL_pure rfl rfl rfl rfl (op_move rfl) ?_
          refine TL_nil ?_
          refine TR_keepH [1, 3, 4, 5, 6, 7, 9, 24, 25, 26, 36, 37, 38] [11, 12, 13, 18, 19] rfl rfl rfl rfl (by rw [hF]; rfl) ?_
          obtain rfl := someI hm
          have hn := CtlOK_next hc2
          exact hn _ rfl
theorem c_impl_BothPolicies (p0 : Policy) (p1 : Policy) (out : Policy × Bool) (hm : m_impl_BothPolicies p0 p1 = some out) : ACallG gl Tryd.prog 13 [.agg [.sl 1 (List.map aLa_i64 p0.Next)], .agg [.sl 1 (List.map aLa_i64 p1.Next)]] [] (.tup [.agg [.ow 1000], .bool out.2]) [(1000, .arr ⟨false, true⟩ 1 29 (List.map aLa_i64 out.1.Next))] := by
  refine ACallG.intro (g := gl) Tryd.func13 rfl Tryd.ntmps13 rfl (fun F hF hI hg => ?_)
  unfold m_impl_BothPolicies at hm
  refine T_seq ?_
  refine T_region ?_
  refine TL_box 11 rfl rfl rfl rfl rfl rfl rfl ?_
  refine TL_box 12 rfl rfl rfl rfl rfl rfl rfl ?_
  refine TL_alloc 13 z26 rfl rfl rfl rfl rfl rfl rfl ?_
  refine TL_pure rfl rfl rfl rfl (op_assign rfl) ?_
  refine TL_nil ?_
  refine T_seq ?_
  refine T_seq ?_
  refine T_region ?_
  refine TL_pure rfl rfl rfl rfl (op_load_agg ag26 sz26 rfl rfl rfl) ?_
  obtain ⟨r8, hr8, hm⟩ := bindS hm
  refine TL_callF (ACall.F (F := F) (c_impl_ValidPolicy p0 r8 hr8)) Tryd.call31 rfl rfl rfl rfl rfl ?_
  refine TL_pure rfl rfl rfl rfl (op_not rfl) ?_
  refine TL_pure rfl rfl rfl rfl (op_move rfl) ?_
  refine TL_split 10 rfl rfl rfl (fun hq => ?_) (fun hq => ?_)
  · replace hm := condT hq hm
    refine TL_pass rfl rfl rfl rfl rfl rfl rfl ?_
    refine TL_pass rfl rfl rfl rfl rfl rfl rfl ?_
    refine TL_pass rfl rfl rfl rfl rfl rfl rfl ?_
    refine TL_pure rfl rfl rfl rfl (op_pick_true rfl rfl) ?_
    refine TL_nil ?_
    refine T_cond_true rfl ?_
    refine T_seq ?_
    refine T_region ?_
    refine TL_pure rfl rfl rfl rfl (op_buildP pl26 z26 rfl rfl rfl rfl rfl) ?_
    refine TL_store_box sz26 rfl rfl rfl rfl rfl rfl rfl rfl rfl ?_
    refine TL_pure rfl rfl rfl rfl (op_assign rfl) ?_
    refine TL_nil ?_
    refine T_ownNilBox 13 0 14 ⟨false, true⟩ 29 rfl rfl rfl (sz := 1) rfl rfl rfl rfl ?_
    refine T_keepH [4, 5] [13, 14] rfl rfl rfl rfl (by rw [hF]; rfl) ?_
    refine T_ren [(13, 13), (14, 1000)] rfl rfl rfl (by rw [hF]; rfl) ?_
    refine T_ret ?_
    obtain rfl := someI hm
    refine ⟨[_, _], [1000], ⟨⟨_, _, rfl, rfl, .inr ⟨ag26, _, _, sz26, rfl, rfl⟩⟩, rfl, trivial⟩, ?_, rfl, rfl, rfl, rfl⟩
    rfl
  · replace hm := condF hq hm
    refine TL_want rfl rfl ?_
    refine TL_pure rfl rfl rfl rfl (op_load_agg ag26 sz26 rfl rfl rfl) ?_
    refine TL_want rfl rfl ?_
    obtain ⟨r12, hr12, hm⟩ := bindS hm
    refine TL_callF (ACall.F (F := F) (c_impl_ValidPolicy p1 r12 hr12)) Tryd.call31 rfl rfl rfl rfl rfl ?_
    refine TL_want rfl rfl ?_
    refine TL_pure rfl rfl rfl rfl (op_not rfl) ?_
    refine TL_pure rfl rfl rfl rfl (op_pick_false rfl rfl) ?_
    refine TL_nil ?_
    refine T_cond rfl (fun hq => ?_) (fun hq => ?_)
    · replace hm := condT hq hm
      refine T_seq ?_
      refine T_region ?_
      refine TL_pure rfl rfl rfl rfl (op_buildP pl26 z26 rfl rfl rfl rfl rfl) ?_
      refine TL_store_box sz26 rfl rfl rfl rfl rfl rfl rfl rfl rfl ?_
      refine TL_pure rfl rfl rfl rfl (op_assign rfl) ?_
      refine TL_nil ?_
      refine T_ownNilBox 13 0 15 ⟨false, true⟩ 29 rfl rfl rfl (sz := 1) rfl rfl rfl rfl ?_
      refine T_keepH [4, 5] [13, 15] rfl rfl rfl rfl (by rw [hF]; rfl) ?_
      refine T_ren [(13, 13), (15, 1000)] rfl rfl rfl (by rw [hF]; rfl) ?_
      refine T_ret ?_
      obtain rfl := someI hm
      refine ⟨[_, _], [1000], ⟨⟨_, _, rfl, rfl, .inr ⟨ag26, _, _, sz26, rfl, rfl⟩⟩, rfl, trivial⟩, ?_, rfl, rfl, rfl, rfl⟩
      rfl
    · replace hm := condF hq hm
      refine T_skip ?_
      refine T_seq ?_
      refine T_region ?_
      refine TL_pure rfl rfl rfl rfl (op_buildA pa63 z63 rfl rfl rfl rfl rfl) ?_
      refine TL_freezeB 11 (by rw [hF]; rfl) rfl rfl rfl rfl ?_
      refine TL_freezeB 12 (by rw [hF]; rfl) rfl rfl rfl rfl ?_
      refine TL_pure rfl rfl rfl rfl (op_makeFunc rfl rfl) ?_
      obtain ⟨r18, hr18, hm⟩ := bindS hm
      refine TL_callO [(1000, 16)] (ACall.F (F := F) (c_impl_grown_2_int64_fBothPolicies_1 ((0 : Int), (0 : Int)) p0.Next p1.Next r18 hr18)) Tryd.call36 rfl rfl rfl rfl rfl rfl rfl rfl rfl rfl rfl rfl rfl ?_
      obtain ⟨r19, hr19, hm⟩ := bindS hm
      refine TL_callO [(1000, 17)] (ACallG.F hI hg (c_impl_graph_minimal r18 r19 hr19)) Tryd.call38 rfl rfl rfl rfl rfl rfl rfl rfl rfl rfl rfl rfl rfl ?_
      refine TL_pure rfl rfl rfl rfl (op_assign rfl) ?_
      refine TL_nil ?_
      refine T_seq ?_
      refine T_seq ?_
      refine T_region ?_
      refine TL_pure rfl rfl rfl rfl (op_move rfl) ?_
      refine TL_pure rfl rfl rfl rfl (op_lenO Tryd.underlying61 rfl rfl (List.length_map _)) ?_
      refine TL_fact (fun _ _ _ hr => RelP.owLen (id := 17) rfl hr) (fun hlen21 => ?_)
      rw [List.length_map] at hlen21
      refine TL_pure rfl rfl rfl rfl (op_gtr rfl rfl) ?_
      refine TL_nil ?_
      refine T_cond rfl (fun hq => ?_) (fun hq => ?_)
      · replace hm := condT hq hm
        refine T_seq ?_
        refine T_region ?_
        refine TL_pure rfl rfl rfl rfl (op_buildP pl26 z26 rfl rfl rfl rfl rfl) ?_
        refine TL_store_box sz26 rfl rfl rfl rfl rfl rfl rfl rfl rfl ?_
        refine TL_pure rfl rfl rfl rfl (op_assign rfl) ?_
        refine TL_nil ?_
        refine T_ownNilBox 13 0 18 ⟨false, true⟩ 29 rfl rfl rfl (sz := 1) rfl rfl rfl rfl ?_
        refine T_keepH [4, 5] [13, 18] rfl rfl rfl rfl (by rw [hF]; rfl) ?_
        refine T_ren [(13, 13), (18, 1000)] rfl rfl rfl (by rw [hF]; rfl) ?_
        refine T_ret ?_
        obtain rfl := someI hm
        refine ⟨[_, _], [1000], ⟨⟨_, _, rfl, rfl, .inr ⟨ag26, _, _, sz26, rfl, rfl⟩⟩, rfl, trivial⟩, ?_, rfl, rfl, rfl, rfl⟩
        rfl
      · replace hm := condF hq hm
        refine T_skip ?_
        refine T_seq ?_
        refine T_region ?_
        refine TL_pure rfl rfl rfl rfl (op_move rfl) ?_
        refine TL_pure rfl rfl rfl rfl (op_buildP pl26 z26 rfl rfl rfl rfl rfl) ?_
        refine TL_store_box sz26 rfl rfl rfl rfl rfl rfl rfl rfl rfl ?_
        refine TL_pure rfl rfl rfl rfl (op_assign rfl) ?_
        refine TL_nil ?_
        refine T_keepH [4, 5] [13, 17] rfl rfl rfl rfl (by rw [hF]; rfl) ?_
        refine T_ren [(13, 13), (17, 1000)] rfl rfl rfl (by rw [hF]; rfl) ?_
        refine T_ret ?_
        obtain rfl := someI hm
        refine ⟨[_, _], [1000], ⟨⟨_, _, rfl, rfl, .inr ⟨ag26, _, _, sz26, rfl, rfl⟩⟩, rfl, trivial⟩, ?_, rfl, rfl, rfl, rfl⟩
        rfl
theorem c_impl_IsStricter_1 (p0 : Bool) (p1 : Bool) (out : Bool) (hm : m_impl_IsStricter_1 p0 p1 = some out) : ACall Tryd.prog 39 [.bool p0, .bool p1] [] (.bool out) [] := by
  refine ACall.intro Tryd.func39 rfl Tryd.ntmps39 rfl (fun F hF => ?_)
  unfold m_impl_IsStricter_1 at hm
  refine T_seq ?_
  refine T_region ?_
  refine TL_pure rfl rfl rfl rfl (op_assign rfl) ?_
  refine TL_nil ?_
  refine T_seq ?_
  refine T_region ?_
  refine TL_pure rfl rfl rfl rfl (op_move rfl) ?_
  refine TL_pure rfl rfl rfl rfl (op_move rfl) ?_
  refine TL_join 3 (fun _ : Unit => ⟨[(9, .bool (p0 && (!p1)))], []⟩) (fun _ => True) (fun _ _ => ?_) (fun hjj => ?_)
  · refine TL_pure rfl rfl rfl rfl (op_assign rfl) ?_
    refine TL_nil ?_
    refine T_keepH [4] [] rfl rfl rfl rfl (by rw [hF]; rfl) ?_
    refine T_ret ?_
    obtain rfl := someI hm
    refine ⟨[_], [], ⟨rfl, trivial⟩, ?_, rfl, rfl, rfl, rfl⟩
    rfl
  · refine TL_split 6 rfl rfl rfl (fun hq => ?_) (fun hq => ?_)
    · refine TL_want rfl rfl ?_
      refine TL_pure rfl rfl rfl rfl (op_move rfl) ?_
      refine TL_want rfl rfl ?_
      refine TL_pure rfl rfl rfl rfl (op_not rfl) ?_
      refine TL_pure rfl rfl rfl rfl (op_pick_true rfl rfl) ?_
      refine TL_keepH [9] [] rfl rfl rfl rfl (by rw [hF]; rfl) ?_
      exact TL_cast _ (by first | (rw [hq, Bool.true_and]; done) | (rw [hq]; rfl)) (hjj () trivial)
    · refine TL_pass rfl rfl rfl rfl rfl rfl rfl ?_
      refine TL_pass rfl rfl rfl rfl rfl rfl rfl ?_
      refine TL_pure rfl rfl rfl rfl (op_pick_false rfl rfl) ?_
      refine TL_keepH [9] [] rfl rfl rfl rfl (by rw [hF]; rfl) ?_
      exact TL_cast _ (by first | (rw [hq, Bool.false_and]; done) | (rw [hq]; rfl)) (hjj () trivial)
theorem c_impl_apart_fIsStricter_1 (p0 : Policy) (p1 : Policy) (out : (List Int) × Bool) (hm : m_impl_apart_fIsStricter_1 p0 p1 = some out) : ACall Tryd.prog 32 [.agg [.sl 1 (List.map aLa_i64 p0.Next)], .agg [.sl 1 (List.map aLa_i64 p1.Next)], .fn (.func 39) [] []] [] (.tup [.ow 1000, .bool out.2]) [(1000, .arr ⟨false, true⟩ 1 2 (List.map a_i64 out.1))] := by
  refine ACall.intro Tryd.func32 rfl Tryd.ntmps32 rfl (fun F hF => ?_)
  unfold m_impl_apart_fIsStricter_1 at hm
  refine T_seq ?_
  refine T_region ?_
  refine TL_box 11 rfl rfl rfl rfl rfl rfl rfl ?_
  refine TL_box 12 rfl rfl rfl rfl rfl rfl rfl ?_
  refine TL_pure rfl rfl rfl rfl (op_assign rfl) ?_
  refine TL_pure rfl rfl rfl rfl (op_assign rfl) ?_
  refine TL_nil ?_
  refine T_seq ?_
  refine T_region ?_
  refine TL_makeMap (J := jk) 13 rfl rfl rfl rfl rfl rfl ?_
  refine TL_pure rfl rfl rfl rfl (op_buildA pa63 z63 rfl rfl rfl rfl rfl) ?_
  refine TL_mapIns (e := ([] : List ((Int × Int) × Bool))) (f := aMaA2a_i64a_bool) (encK := aA2a_i64) (encV := a_bool) ((0 : Int), (0 : Int)) true Tryd.underlying88 (key_pair Tryd.underlying63 Tryd.underlying2 sz2) (fun _ => rfl) rfl rfl rfl rfl rfl rfl rfl rfl rfl ?_
  refine TL_pure rfl rfl rfl rfl (op_move rfl) ?_
  refine TL_pure rfl rfl rfl rfl (op_assign rfl) ?_
  refine TL_nil ?_
  refine T_seq ?_
  refine T_region ?_
  refine TL_pure rfl rfl rfl rfl (op_buildP pl90 z90 rfl rfl rfl rfl rfl) ?_
  refine TL_ownNilAt 19 2 15 ⟨false, true⟩ 2 rfl rfl rfl (sz := 1) rfl rfl rfl rfl ?_
  refine TL_buildSliceD (ids := [15]) (es := List.map a_spot ([(spot.mk ((0 : Int), (0 : Int)) ([] : List Int))])) 14 el91 z90 rfl rfl rfl rfl rfl rfl (by rw [hF]; intro j hj; simp only [List.mem_cons, List.not_mem_nil, or_false] at hj; rcases hj with rfl <;> rfl) rfl rfl rfl rfl rfl rfl ?_
  refine TL_pure rfl rfl rfl rfl (op_assign rfl) ?_
  refine TL_nil ?_
  refine T_seq ?_
  refine T_seq ?_
  refine T_region ?_
  refine TL_pure rfl rfl rfl rfl (op_assign rfl) ?_
  refine TL_nil ?_
  refine T_block ?_
  refine T_keepH [2, 3, 4, 8, 9, 10] [11, 12, 13, 14] rfl rfl rfl rfl (by rw [hF]; rfl) ?_
  refine T_loop ?_
  obtain ⟨u0, hl0, hm⟩ := bindS hm
  refine TR_iter2 (m_impl_apart_fIsStricter_1_L0 p0 p1) (fun (s0 : (List ((Int × Int) × Bool)) × (List spot) × Int) => ⟨[(2, .fn (.func 39) [] []), (3, .ptr 11 0 0), (4, .ptr 12 0 0), (8, .mp 13), (9, .ow 14), (10, .int .i64 s0.2.2)], [(11, .box [.sl 1 (List.map aLa_i64 p0.Next)]), (12, .box [.sl 1 (List.map aLa_i64 p1.Next)]), (13, .box (.tr (.tup (List.map aMaA2a_i64a_bool s0.1)) :: jk)), (14, .arr ⟨false, true⟩ 3 90 (List.map a_spot s0.2.1))]⟩) (fun u0 => match u0 with | .inl u0 => .exit 0 | .inr u0 => .ret) (fun u0 => match u0 with | .inl u0 => ⟨[], []⟩ | .inr u0 => ⟨[(6, .ow 1000), (7, .bool u0.2)], [(1000, .arr ⟨false, true⟩ 1 2 (List.map a_i64 u0.1))]⟩) (fun u0 => m_impl_apart_fIsStricter_1_A0 u0 = some out) hl0 hm (fun u0 hm => ?_) (fun hx0 s0 c0 hm hc0 => ?_)
  · rcases u0 with u0 | u0
    · unfold m_impl_apart_fIsStricter_1_A0 at hm
      refine T_seq ?_
      refine T_region ?_
      refine TL_pure rfl rfl rfl rfl (op_assign rfl) ?_
      refine TL_pure rfl rfl rfl rfl (op_assign rfl) ?_
      refine TL_nil ?_
      refine T_ownNil 6 52 ⟨false, true⟩ 2 rfl rfl (sz := 1) rfl rfl rfl ?_
      refine T_keepH [6, 7] [52] rfl rfl rfl rfl (by rw [hF]; rfl) ?_
      refine T_ren [(52, 1000)] rfl rfl rfl (by rw [hF]; rfl) ?_
      refine T_ret ?_
      obtain rfl := someI hm
      refine ⟨[_, _], [1000], ⟨rfl, rfl, trivial⟩, ?_, rfl, rfl, rfl, rfl⟩
      rfl
    · unfold m_impl_apart_fIsStricter_1_A0 at hm
      obtain rfl := someI hm
      refine ⟨[_, _], [1000], ⟨rfl, rfl, trivial⟩, ?_, rfl, rfl, rfl, rfl⟩
      rfl
  · unfold m_impl_apart_fIsStricter_1_L0 at hm
    refine T_seq ?_
    refine T_seq ?_
    refine T_region ?_
    refine TL_pure rfl rfl rfl rfl (op_move rfl) ?_
    refine TL_pure rfl rfl rfl rfl (op_move rfl) ?_
    refine TL_pure rfl rfl rfl rfl (op_lenO Tryd.underlying91 rfl rfl (List.length_map _)) ?_
    refine TL_fact (fun _ _ _ hr => RelP.owLen (id := 14) rfl hr) (fun hlen23 => ?_)
    rw [List.length_map] at hlen23
    refine TL_pure rfl rfl rfl rfl (op_lss rfl rfl) ?_
    refine TL_nil ?_
    refine T_cond rfl (fun hq => ?_) (fun hq => ?_)
    · replace hm := condT hq hm
      refine T_skip ?_
      refine T_seq ?_
      refine T_block ?_
      refine T_seq ?_
      refine T_region ?_
      refine TL_pure rfl rfl rfl rfl (op_move rfl) ?_
      refine TL_nil ?_
      refine T_block ?_
      refine T_keepH [2, 3, 4, 8, 9, 10, 27] [11, 12, 13, 14] rfl rfl rfl rfl (by rw [hF]; rfl) ?_
      refine T_loop ?_
      obtain ⟨u1, hl1, hm⟩ := bindS hm
      refine TR_forL2 (List.range 4) (m_impl_apart_fIsStricter_1_L1 p0 p1 s0) (fun (s1 : (List ((Int × Int) × Bool)) × (List spot)) => (.inl (s1.1, s1.2))) (fun n1 (s1 : (List ((Int × Int) × Bool)) × (List spot)) => ⟨[(2, .fn (.func 39) [] []), (3, .ptr 11 0 0), (4, .ptr 12 0 0), (8, .mp 13), (9, .ow 14), (10, .int .i64 s0.2.2), (27, .int .i64 (n1 : Int))], [(11, .box [.sl 1 (List.map aLa_i64 p0.Next)]), (12, .box [.sl 1 (List.map aLa_i64 p1.Next)]), (13, .box (.tr (.tup (List.map aMaA2a_i64a_bool s1.1)) :: jk)), (14, .arr ⟨false, true⟩ 3 90 (List.map a_spot s1.2))]⟩) (fun u1 => match u1 with | .inl u1 => .exit 2 | .inr u1 => .ret) (fun u1 => match u1 with | .inl u1 => ⟨[(2, .fn (.func 39) [] []), (3, .ptr 11 0 0), (4, .ptr 12 0 0), (8, .mp 13), (9, .ow 14), (10, .int .i64 s0.2.2)], [(11, .box [.sl 1 (List.map aLa_i64 p0.Next)]), (12, .box [.sl 1 (List.map aLa_i64 p1.Next)]), (13, .box (.tr (.tup (List.map aMaA2a_i64a_bool u1.1)) :: jk)), (14, .arr ⟨false, true⟩ 3 90 (List.map a_spot u1.2))]⟩ | .inr u1 => ⟨[(6, .ow 1000), (7, .bool u1.2)], [(1000, .arr ⟨false, true⟩ 1 2 (List.map a_i64 u1.1))]⟩) (fun u1 => m_impl_apart_fIsStricter_1_A1 s0 u1 = some c0) hl1 hm (fun u1 hm => ?_) (fun hx1 s1 hm => ?_) (fun hx1 n1 x1 s1 c1 hxn1 hlt1 hm hc1 => ?_)
      · rcases u1 with u1 | u1
        · unfold m_impl_apart_fIsStricter_1_A1 at hm
          refine T_region ?_
          refine TL_pure rfl rfl rfl rfl (op_move rfl) ?_
          refine TL_pure rfl rfl rfl rfl (op_addW rfl rfl) ?_
          refine TL_pure rfl rfl rfl rfl (op_assign rfl) ?_
          refine TL_nil ?_
          refine TR_keepH [2, 3, 4, 8, 9, 10] [11, 12, 13, 14] rfl rfl rfl rfl (by rw [hF]; rfl) ?_
          obtain rfl := someI hm
          have hn := CtlOK_next hc0
          exact hn _ rfl
        · unfold m_impl_apart_fIsStricter_1_A1 at hm
          obtain rfl := someI hm
          have hn := CtlOK_out hc0
          exact hx0 (.inr (u1.1, u1.2)) hn
      · refine T_seq ?_
        refine T_region ?_
        refine TL_pure rfl rfl rfl rfl (op_lss rfl rfl) ?_
        refine TL_nil ?_
        refine T_seq ?_
        refine T_if_false rfl (decide_eq_false (by simp)) ?_
        refine T_keepH [2, 3, 4, 8, 9, 10] [11, 12, 13, 14] rfl rfl rfl rfl (by rw [hF]; rfl) ?_
        refine T_exit ?_
        exact hx1 (.inl (s1.1, s1.2)) hm
      · unfold m_impl_apart_fIsStricter_1_L1 at hm
        refine T_seq ?_
        refine T_region ?_
        refine TL_pure rfl rfl rfl rfl (op_lss rfl rfl) ?_
        refine TL_nil ?_
        refine T_seq ?_
        refine T_if_true rfl (decide_eq_true (by have := hlt1; simp at this; omega)) ?_
        refine T_skip ?_
        refine T_seq ?_
        refine T_block ?_
        refine T_seq ?_
        refine T_region ?_
        refine TL_pure rfl rfl rfl rfl (op_move rfl) ?_
        refine TL_pure rfl rfl rfl rfl (op_assign rfl) ?_
        refine TL_nil ?_
        refine T_seq ?_
        refine T_drawZ [] mix (by kernel_rfl) rfl ?_
        obtain ⟨x34, hx34, hm⟩ := bindS hm
        obtain ⟨x38, hx38, hm⟩ := bindS hm
        obtain ⟨x41, hx41, hm⟩ := bindS hm
        obtain ⟨x51, hx51, hm⟩ := bindS hm
        obtain ⟨x54, hx54, hm⟩ := bindS hm
        refine TZ_pure 0 (by kernel_rfl) rfl rfl rfl rfl rfl (op_fieldAddr fa26_0 rfl rfl) ?_
        refine TZ_pure 1 (by kernel_rfl) rfl rfl rfl rfl rfl (op_load_one ag24 rfl rfl) ?_
        refine TZ_pure 2 (by kernel_rfl) rfl rfl rfl rfl rfl (op_move rfl) ?_
        refine TZ_pure 3 (by kernel_rfl) rfl rfl rfl rfl rfl (op_move rfl) ?_
        refine TZ_pure 4 (by kernel_rfl) rfl rfl rfl rfl rfl (op_indexO el91 rfl rfl rfl hx34) ?_
        refine TZ_pure 5 (by kernel_rfl) rfl rfl rfl rfl rfl (op_fieldAddr fa90_0 rfl rfl) ?_
        refine TZ_pure 6 (by kernel_rfl) rfl rfl rfl rfl rfl (op_indexA (i := 0) pa63 rfl rfl rfl rfl rfl) ?_
        refine TZ_pure 7 (by kernel_rfl) rfl rfl rfl rfl rfl (op_loadD1 ag2 rfl rfl ((getI_spec hx34).2) rfl rfl rfl rfl) ?_
        refine TZ_pure 8 (by kernel_rfl) rfl rfl rfl rfl rfl (op_indexT el24 rfl rfl hx38 rfl) ?_
        refine TZ_pure 9 (by kernel_rfl) rfl rfl rfl rfl rfl (op_load_one ag29 rfl rfl) ?_
        refine TZ_pure 10 (by kernel_rfl) rfl rfl rfl rfl rfl (op_move rfl) ?_
        refine TZ_pure 11 (by kernel_rfl) rfl rfl rfl rfl rfl (op_indexT el29 rfl rfl hx41 rfl) ?_
        refine TZ_pure 12 (by kernel_rfl) rfl rfl rfl rfl rfl (op_load_one ag2 rfl rfl) ?_
        refine TZ_pure 13 (by kernel_rfl) rfl rfl rfl rfl rfl (op_fieldAddr fa26_0 rfl rfl) ?_
        refine TZ_pure 14 (by kernel_rfl) rfl rfl rfl rfl rfl (op_load_one ag24 rfl rfl) ?_
        refine TZ_pure 15 (by kernel_rfl) rfl rfl rfl rfl rfl (op_move rfl) ?_
        refine TZ_pure 16 (by kernel_rfl) rfl rfl rfl rfl rfl (op_move rfl) ?_
        refine TZ_pure 17 (by kernel_rfl) rfl rfl rfl rfl rfl (op_indexO el91 rfl rfl rfl hx34) ?_
        refine TZ_pure 18 (by kernel_rfl) rfl rfl rfl rfl rfl (op_fieldAddr fa90_0 rfl rfl) ?_
        refine TZ_pure 19 (by kernel_rfl) rfl rfl rfl rfl rfl (op_indexA (i := 1) pa63 rfl rfl rfl rfl rfl) ?_
        refine TZ_pure 20 (by kernel_rfl) rfl rfl rfl rfl rfl (op_loadD1 ag2 rfl rfl ((getI_spec hx34).2) rfl rfl rfl rfl) ?_
        refine TZ_pure 21 (by kernel_rfl) rfl rfl rfl rfl rfl (op_indexT el24 rfl rfl hx51 rfl) ?_
        refine TZ_pure 22 (by kernel_rfl) rfl rfl rfl rfl rfl (op_load_one ag29 rfl rfl) ?_
        refine TZ_pure 23 (by kernel_rfl) rfl rfl rfl rfl rfl (op_move rfl) ?_
        refine TZ_pure 24 (by kernel_rfl) rfl rfl rfl rfl rfl (op_indexT el29 rfl rfl hx54 rfl) ?_
        refine TZ_pure 25 (by kernel_rfl) rfl rfl rfl rfl rfl (op_load_one ag2 rfl rfl) ?_
        refine TZ_pure 26 (by kernel_rfl) rfl rfl rfl rfl rfl (op_assign rfl) ?_
        refine TZ_pure 27 (by kernel_rfl) rfl rfl rfl rfl rfl (op_assign rfl) ?_
        refine TZ_done (by kernel_rfl) ?_
        refine T_seq ?_
        refine T_region ?_
        refine TL_pure rfl rfl rfl rfl (op_move rfl) ?_
        refine TL_pure rfl rfl rfl rfl (op_move rfl) ?_
        refine TL_pure rfl rfl rfl rfl (op_indexO el91 rfl rfl rfl hx34) ?_
        refine TL_pure rfl rfl rfl rfl (op_fieldAddr fa90_1 rfl rfl) ?_
        refine TL_pure rfl rfl rfl rfl (op_loadD1 ag29 rfl rfl ((getI_spec hx34).2) rfl rfl rfl rfl) ?_
        obtain ⟨r61, hr61, hm⟩ := bindS hm
        refine TL_callOX [(1000, 48)] (ACall.F (F := F) (c_impl_copyInts x34.word r61 hr61)) Tryd.call61 rfl ⟨.inl (.inr (.inr ⟨_, _, (s0.2.2).toNat, 2, _, _, _, _, _, _, rfl, rfl, get_map ((getI_spec hx34).2), rfl, rfl, rfl, rfl⟩)), trivial⟩ rfl rfl rfl rfl rfl rfl rfl rfl rfl rfl rfl ?_
        refine TL_pure rfl rfl rfl rfl (op_move rfl) ?_
        refine TL_buildSlice 49 (es := List.map a_i64 [(n1 : Int)]) el29 z2 rfl rfl rfl rfl rfl rfl rfl rfl rfl ?_
        refine TL_undeep 48 (p' := false) (by rw [hF]; rfl) rfl (ElR.map (f := a_i64) (g := a_i64) (fun _ => ⟨⟨rfl, rfl⟩, trivial⟩) r61) rfl ?_
        obtain ⟨q64, hq64, hm⟩ := bindS hm
        refine TL_appendT (f := a_i64) (a := r61) (b := [(n1 : Int)]) el29 z2 rfl rfl rfl rfl rfl rfl rfl (capI_spec hq64) rfl rfl rfl rfl rfl ?_
        refine TL_pure rfl rfl rfl rfl (op_assign rfl) ?_
        refine TL_nil ?_
        refine T_seq ?_
        refine T_seq ?_
        refine T_region ?_
        refine TL_pure rfl rfl rfl rfl (op_move rfl) ?_
        refine TL_pure rfl rfl rfl rfl (op_move rfl) ?_
        refine TL_pure rfl rfl rfl rfl (op_geq rfl rfl) ?_
        refine TL_pure rfl rfl rfl rfl (op_move rfl) ?_
        refine TL_pure rfl rfl rfl rfl (op_geq rfl rfl) ?_
        obtain ⟨r70, hr70, hm⟩ := bindS hm
        refine TL_callV rfl (ACall.F (F := F) (c_impl_IsStricter_1 (decide ((0 : Int) ≤ x41)) (decide ((0 : Int) ≤ x54)) r70 hr70)) Tryd.call39 rfl rfl rfl rfl rfl ?_
        refine TL_nil ?_
        refine T_cond rfl (fun hq => ?_) (fun hq => ?_)
        · replace hm := condT hq hm
          refine T_seq ?_
          refine T_region ?_
          refine TL_pure rfl rfl rfl rfl (op_move rfl) ?_
          refine TL_pure rfl rfl rfl rfl (op_assign rfl) ?_
          refine TL_pure rfl rfl rfl rfl (op_assign rfl) ?_
          refine TL_nil ?_
          refine T_keepH [6, 7] [48] rfl rfl rfl rfl (by rw [hF]; rfl) ?_
          refine T_deepen 48 (p' := false) (List.map a_i64 (r61 ++ [(n1 : Int)])) (by rw [hF]; rfl) rfl (ElR.map (f := a_i64) (g := a_i64) (fun _ => ⟨⟨rfl, rfl⟩, trivial⟩) (r61 ++ [(n1 : Int)])) rfl rfl rfl ?_
          refine T_ren [(48, 1000)] rfl rfl rfl (by rw [hF]; rfl) ?_
          refine T_ret ?_
          obtain rfl := someI hm
          have hn := CtlOK_out hc1
          exact hx1 (.inr ((r61 ++ [(n1 : Int)]), true)) hn
        · replace hm := condF hq hm
          refine T_skip ?_
          refine T_seq ?_
          refine T_region ?_
          refine TL_pure rfl rfl rfl rfl (op_move rfl) ?_
          refine TL_pure rfl rfl rfl rfl (op_move rfl) ?_
          refine TL_pure rfl rfl rfl rfl (op_buildA pa63 z63 rfl rfl rfl rfl rfl) ?_
          refine TL_alloc 50 z63 rfl rfl rfl rfl rfl rfl rfl ?_
          refine TL_store_box sz63 rfl rfl rfl rfl rfl rfl rfl rfl rfl ?_
          refine TL_nil ?_
          refine T_join (fun (j0 : Bool) => ⟨[(2, .fn (.func 39) [] []), (3, .ptr 11 0 0), (4, .ptr 12 0 0), (8, .mp 13), (9, .ow 14), (10, .int .i64 s0.2.2), (14, .ow 48), (15, .ptr 50 0 0), (27, .int .i64 (n1 : Int)), (86, .bool j0)], [(11, .box [.sl 1 (List.map aLa_i64 p0.Next)]), (12, .box [.sl 1 (List.map aLa_i64 p1.Next)]), (13, .box (.tr (.tup (List.map aMaA2a_i64a_bool s1.1)) :: jk)), (14, .arr ⟨false, true⟩ 3 90 (List.map a_spot s1.2)), (48, .arr ⟨false, false⟩ 1 2 (List.map a_i64 (r61 ++ [(n1 : Int)]))), (50, .box [.int .i64 x41, .int .i64 x54])]⟩) (fun j0 => m_impl_apart_fIsStricter_1_J0 s1 n1 x41 x54 r61 j0 = some c1) (fun j0 hm => ?_) (fun hj0 => ?_)
          · unfold m_impl_apart_fIsStricter_1_J0 at hm
            refine T_cond rfl (fun hq => ?_) (fun hq => ?_)
            · replace hm := condT hq hm
              refine T_seq ?_
              refine T_region ?_
              refine TL_pure rfl rfl rfl rfl (op_move rfl) ?_
              refine TL_pure rfl rfl rfl rfl (op_load_agg ag63 sz63 rfl rfl rfl) ?_
              refine TL_mapSet (e := s1.1) (f := aMaA2a_i64a_bool) (encK := aA2a_i64) (encV := a_bool) (x41, x54) true Tryd.underlying88 (key_pair Tryd.underlying63 Tryd.underlying2 sz2) (fun _ => rfl) rfl rfl rfl rfl rfl rfl rfl rfl rfl ?_
              refine TL_nil ?_
              refine T_region ?_
              refine TL_pure rfl rfl rfl rfl (op_move rfl) ?_
              refine TL_pure rfl rfl rfl rfl (op_load_agg ag63 sz63 rfl rfl rfl) ?_
              refine TL_pure rfl rfl rfl rfl (op_move rfl) ?_
              refine TL_pure rfl rfl rfl rfl (op_buildP pl90 z90 rfl rfl rfl rfl rfl) ?_
              refine TL_deepen 48 (p' := false) (List.map a_i64 (r61 ++ [(n1 : Int)])) (by rw [hF]; rfl) rfl (ElR.map (f := a_i64) (g := a_i64) (fun _ => ⟨⟨rfl, rfl⟩, trivial⟩) (r61 ++ [(n1 : Int)])) rfl rfl rfl ?_
              refine TL_buildSliceD (ids := [48]) (es := List.map a_spot ([(spot.mk (x41, x54) (r61 ++ [(n1 : Int)]))])) 51 el91 z90 rfl rfl rfl rfl rfl rfl (by rw [hF]; intro j hj; simp only [List.mem_cons, List.not_mem_nil, or_false] at hj; rcases hj with rfl <;> rfl) rfl rfl rfl rfl rfl rfl ?_
              obtain ⟨q94, hq94, hm⟩ := bindS hm
              refine TL_appendDT (f := a_spot) (a := s1.2) (b := [(spot.mk (x41, x54) (r61 ++ [(n1 : Int)]))]) el91 z90 rfl rfl rfl rfl rfl rfl rfl rfl (by rw [hF]; rfl) (capI_spec hq94) rfl rfl rfl rfl rfl ?_
              refine TL_pure rfl rfl rfl rfl (op_assign rfl) ?_
              refine TL_nil ?_
              refine T_region ?_
              refine TL_pure rfl rfl rfl rfl (op_addN rfl rfl (by have := hlt1; simp at this; omega)) ?_
              refine TL_pure rfl rfl rfl rfl (op_move rfl) ?_
              refine TL_nil ?_
              refine TR_keepH [2, 3, 4, 8, 9, 10, 27] [11, 12, 13, 14] rfl rfl rfl rfl (by rw [hF]; rfl) ?_
              obtain rfl := someI hm
              have hn := CtlOK_next hc1
              exact hn _ rfl
            · replace hm := condF hq hm
              refine T_skip ?_
              refine T_region ?_
              refine TL_pure rfl rfl rfl rfl (op_addN rfl rfl (by have := hlt1; simp at this; omega)) ?_
              refine TL_pure rfl rfl rfl rfl (op_move rfl) ?_
              refine TL_nil ?_
              refine TR_keepH [2, 3, 4, 8, 9, 10, 27] [11, 12, 13, 14] rfl rfl rfl rfl (by rw [hF]; rfl) ?_
              obtain rfl := someI hm
              have hn := CtlOK_next hc1
              exact hn _ rfl
          · refine T_region ?_
            refine TL_pure rfl rfl rfl rfl (op_move rfl) ?_
            refine TL_pure rfl rfl rfl rfl (op_geq rfl rfl) ?_
            refine TL_pure rfl rfl rfl rfl (op_move rfl) ?_
            refine TL_join 3 (fun _ : Unit => ⟨[(2, .fn (.func 39) [] []), (3, .ptr 11 0 0), (4, .ptr 12 0 0), (8, .mp 13), (9, .ow 14), (10, .int .i64 s0.2.2), (14, .ow 48), (15, .ptr 50 0 0), (27, .int .i64 (n1 : Int)), (80, .bool ((decide ((0 : Int) ≤ x41)) && (decide ((0 : Int) ≤ x54))))], [(11, .box [.sl 1 (List.map aLa_i64 p0.Next)]), (12, .box [.sl 1 (List.map aLa_i64 p1.Next)]), (13, .box (.tr (.tup (List.map aMaA2a_i64a_bool s1.1)) :: jk)), (14, .arr ⟨false, true⟩ 3 90 (List.map a_spot s1.2)), (48, .arr ⟨false, false⟩ 1 2 (List.map a_i64 (r61 ++ [(n1 : Int)]))), (50, .box [.int .i64 x41, .int .i64 x54])]⟩) (fun _ => True) (fun _ _ => ?_) (fun hjj => ?_)
            · refine TL_pure rfl rfl rfl rfl (op_move rfl) ?_
              refine TL_split 81 rfl rfl rfl (fun hq => ?_) (fun hq => ?_)
              · replace hm := condT hq hm
                refine TL_want rfl rfl ?_
                refine TL_pure rfl rfl rfl rfl (op_move rfl) ?_
                refine TL_want rfl rfl ?_
                refine TL_pure rfl rfl rfl rfl (op_load_agg ag63 sz63 rfl rfl rfl) ?_
                refine TL_want rfl rfl ?_
                refine TL_pure rfl rfl rfl rfl (op_lookup (e := s1.1) (q := (x41, x54)) (zr := false) (f := aMaA2a_i64a_bool) (encK := aA2a_i64) (encV := a_bool) false Tryd.underlying88 (key_pair Tryd.underlying63 Tryd.underlying2 sz2) (fun _ => rfl) z4 (zero_cav rfl) rfl rfl rfl rfl rfl) ?_
                refine TL_want rfl rfl ?_
                refine TL_pure rfl rfl rfl rfl (op_not rfl) ?_
                refine TL_pure rfl rfl rfl rfl (op_pick_true rfl rfl) ?_
                refine TL_nil ?_
                refine T_keepH [2, 3, 4, 8, 9, 10, 14, 15, 27, 86] [11, 12, 13, 14, 48, 50] rfl rfl rfl rfl (by rw [hF]; rfl) ?_
                exact hj0 (!((mget s1.1 (x41, x54)).getD false)) hm
              · replace hm := condF hq hm
                refine TL_pass rfl rfl rfl rfl rfl rfl rfl ?_
                refine TL_pass rfl rfl rfl rfl rfl rfl rfl ?_
                refine TL_pass rfl rfl rfl rfl rfl rfl rfl ?_
                refine TL_pass rfl rfl rfl rfl rfl rfl rfl ?_
                refine TL_pure rfl rfl rfl rfl (op_pick_false rfl rfl) ?_
                refine TL_nil ?_
                refine T_keepH [2, 3, 4, 8, 9, 10, 14, 15, 27, 86] [11, 12, 13, 14, 48, 50] rfl rfl rfl rfl (by rw [hF]; rfl) ?_
                exact hj0 false hm
            · refine TL_split 77 rfl rfl rfl (fun hq => ?_) (fun hq => ?_)
              · refine TL_want rfl rfl ?_
                refine TL_pure rfl rfl rfl rfl (op_move rfl) ?_
                refine TL_want rfl rfl ?_
                refine TL_pure rfl rfl rfl rfl (op_geq rfl rfl) ?_
                refine TL_pure rfl rfl rfl rfl (op_pick_true rfl rfl) ?_
                refine TL_keepH [2, 3, 4, 8, 9, 10, 14, 15, 27, 80] [11, 12, 13, 14, 48, 50] rfl rfl rfl rfl (by rw [hF]; rfl) ?_
                exact TL_cast _ (by first | (rw [hq, Bool.true_and]; done) | (rw [hq]; rfl)) (hjj () trivial)
              · refine TL_pass rfl rfl rfl rfl rfl rfl rfl ?_
                refine TL_pass rfl rfl rfl rfl rfl rfl rfl ?_
                refine TL_pure rfl rfl rfl rfl (op_pick_false rfl rfl) ?_
                refine TL_keepH [2, 3, 4, 8, 9, 10, 14, 15, 27, 80] [11, 12, 13, 14, 48, 50] rfl rfl rfl rfl (by rw [hF]; rfl) ?_
                exact TL_cast _ (by first | (rw [hq, Bool.false_and]; done) | (rw [hq]; rfl)) (hjj () trivial)
    · replace hm := condF hq hm
      refine T_keepH [] [] rfl rfl rfl rfl (by rw [hF]; rfl) ?_
      refine T_exit ?_
      obtain rfl := someI hm
      have hn := CtlOK_out hc0
      exact hx0 (.inl ()) hn
theorem c_impl_IsStricter (p0 : Policy) (p1 : Policy) (out : Bool) (hm : m_impl_IsStricter p0 p1 = some out) : ACall Tryd.prog 14 [.agg [.sl 1 (List.map aLa_i64 p0.Next)], .agg [.sl 1 (List.map aLa_i64 p1.Next)]] [] (.bool out) [] := by
  refine ACall.intro Tryd.func14 rfl Tryd.ntmps14 rfl (fun F hF => ?_)
  unfold m_impl_IsStricter at hm
  refine T_seq ?_
  refine T_region ?_
  refine TL_box 11 rfl rfl rfl rfl rfl rfl rfl ?_
  refine TL_box 12 rfl rfl rfl rfl rfl rfl rfl ?_
  refine TL_pure rfl rfl rfl rfl (op_assign rfl) ?_
  refine TL_nil ?_
  refine T_seq ?_
  refine T_seq ?_
  refine T_region ?_
  refine TL_pure rfl rfl rfl rfl (op_load_agg ag26 sz26 rfl rfl rfl) ?_
  obtain ⟨r8, hr8, hm⟩ := bindS hm
  refine TL_callF (ACall.F (F := F) (c_impl_ValidPolicy p0 r8 hr8)) Tryd.call31 rfl rfl rfl rfl rfl ?_
  refine TL_pure rfl rfl rfl rfl (op_not rfl) ?_
  refine TL_pure rfl rfl rfl rfl (op_move rfl) ?_
  refine TL_split 10 rfl rfl rfl (fun hq => ?_) (fun hq => ?_)
  · replace hm := condT hq hm
    refine TL_pass rfl rfl rfl rfl rfl rfl rfl ?_
    refine TL_pass rfl rfl rfl rfl rfl rfl rfl ?_
    refine TL_pass rfl rfl rfl rfl rfl rfl rfl ?_
    refine TL_pure rfl rfl rfl rfl (op_pick_true rfl rfl) ?_
    refine TL_nil ?_
    refine T_cond_true rfl ?_
    refine T_seq ?_
    refine T_region ?_
    refine TL_pure rfl rfl rfl rfl (op_assign rfl) ?_
    refine TL_nil ?_
    refine T_keepH [4] [] rfl rfl rfl rfl (by rw [hF]; rfl) ?_
    refine T_ret ?_
    obtain rfl := someI hm
    refine ⟨[_], [], ⟨rfl, trivial⟩, ?_, rfl, rfl, rfl, rfl⟩
    rfl
  · replace hm := condF hq hm
    refine TL_want rfl rfl ?_
    refine TL_pure rfl rfl rfl rfl (op_load_agg ag26 sz26 rfl rfl rfl) ?_
    refine TL_want rfl rfl ?_
    obtain ⟨r12, hr12, hm⟩ := bindS hm
    refine TL_callF (ACall.F (F := F) (c_impl_ValidPolicy p1 r12 hr12)) Tryd.call31 rfl rfl rfl rfl rfl ?_
    refine TL_want rfl rfl ?_
    refine TL_pure rfl rfl rfl rfl (op_not rfl) ?_
    refine TL_pure rfl rfl rfl rfl (op_pick_false rfl rfl) ?_
    refine TL_nil ?_
    refine T_cond rfl (fun hq => ?_) (fun hq => ?_)
    · replace hm := condT hq hm
      refine T_seq ?_
      refine T_region ?_
      refine TL_pure rfl rfl rfl rfl (op_assign rfl) ?_
      refine TL_nil ?_
      refine T_keepH [4] [] rfl rfl rfl rfl (by rw [hF]; rfl) ?_
      refine T_ret ?_
      obtain rfl := someI hm
      refine ⟨[_], [], ⟨rfl, trivial⟩, ?_, rfl, rfl, rfl, rfl⟩
      rfl
    · replace hm := condF hq hm
      refine T_skip ?_
      refine T_seq ?_
      refine T_region ?_
      refine TL_pure rfl rfl rfl rfl (op_load_agg ag26 sz26 rfl rfl rfl) ?_
      refine TL_pure rfl rfl rfl rfl (op_load_agg ag26 sz26 rfl rfl rfl) ?_
      obtain ⟨r18, hr18, hm⟩ := bindS hm
      refine TL_callO [(1000, 13)] (ACall.F (F := F) (c_impl_apart_fIsStricter_1 p0 p1 r18 hr18)) Tryd.call32 rfl rfl rfl rfl rfl rfl rfl rfl rfl rfl rfl rfl rfl ?_
      refine TL_pure rfl rfl rfl rfl (op_move rfl) ?_
      refine TL_pure rfl rfl rfl rfl (op_extract rfl rfl) ?_
      refine TL_pure rfl rfl rfl rfl (op_extract rfl rfl) ?_
      refine TL_pure rfl rfl rfl rfl (op_assign rfl) ?_
      refine TL_pure rfl rfl rfl rfl (op_assign rfl) ?_
      refine TL_nil ?_
      refine T_seq ?_
      refine T_region ?_
      refine TL_pure rfl rfl rfl rfl (op_move rfl) ?_
      refine TL_pure rfl rfl rfl rfl (op_not rfl) ?_
      refine TL_pure rfl rfl rfl rfl (op_assign rfl) ?_
      refine TL_nil ?_
      refine T_keepH [4] [] rfl rfl rfl rfl (by rw [hF]; rfl) ?_
      refine T_ret ?_
      obtain rfl := someI hm
      refine ⟨[_], [], ⟨rfl, trivial⟩, ?_, rfl, rfl, rfl, rfl⟩
      rfl
theorem c_spec_l10Both (p0 : Policy) (p1 : Policy) (out : Policy) (hm : m_spec_l10Both p0 p1 = some out) : ACall Tryd.prog 40 [.cp [.sl 1 (List.map aLa_i64 p0.Next)], .cp [.sl 1 (List.map aLa_i64 p1.Next)]] [] (.agg [.ow 1000]) [(1000, .arr ⟨false, true⟩ 1 29 (List.map aLa_i64 out.Next))] := by
  refine ACall.intro Tryd.func40 rfl Tryd.ntmps40 rfl (fun F hF => ?_)
  unfold m_spec_l10Both at hm
  refine T_seq ?_
  refine T_region ?_
  refine TL_alloc 11 z26 rfl rfl rfl rfl rfl rfl rfl ?_
  refine TL_nil ?_
  refine T_seq ?_
  refine T_region ?_
  refine TL_pure rfl rfl rfl rfl (op_move rfl) ?_
  refine TL_pure rfl rfl rfl rfl (op_nilCheck rfl rfl) ?_
  refine TL_pure rfl rfl rfl rfl (op_fieldAddr fa26_0 rfl rfl) ?_
  refine TL_pure rfl rfl rfl rfl (op_load_one ag24 rfl rfl) ?_
  refine TL_pure rfl rfl rfl rfl (op_lenT Tryd.underlying24 rfl (List.length_map _)) ?_
  refine TL_fact (fun _ _ _ hr => RelP.slLen (i := 15) rfl hr) (fun hlen16 => ?_)
  rw [List.length_map] at hlen16
  refine TL_pure rfl rfl rfl rfl (op_assign rfl) ?_
  refine TL_nil ?_
  refine T_seq ?_
  refine T_region ?_
  refine TL_pure rfl rfl rfl rfl (op_buildP pl26 z26 rfl rfl rfl rfl rfl) ?_
  refine TL_alloc 12 z26 rfl rfl rfl rfl rfl rfl rfl ?_
  refine TL_store_box sz26 rfl rfl rfl rfl rfl rfl rfl rfl rfl ?_
  refine TL_nil ?_
  refine T_seq ?_
  refine T_seq ?_
  refine T_region ?_
  refine TL_pure rfl rfl rfl rfl (op_assign rfl) ?_
  refine TL_nil ?_
  refine T_block ?_
  refine T_ownNilBox 12 0 38 ⟨false, true⟩ 29 rfl rfl rfl (sz := 1) rfl rfl rfl rfl ?_
  refine T_keepH [0, 1, 4, 5, 6, 7] [11, 12, 38] rfl rfl rfl rfl (by rw [hF]; rfl) ?_
  refine T_ren [(11, 11), (12, 12), (38, 70002)] rfl rfl rfl (by rw [hF]; rfl) ?_
  refine T_loop ?_
  obtain ⟨u0, hl0, hm⟩ := bindS hm
  refine TR_iter2 (m_spec_l10Both_L0 p0 p1) (fun (s0 : (List (List Int)) × Int) => ⟨[(0, .cp [.sl 1 (List.map aLa_i64 p0.Next)]), (1, .cp [.sl 1 (List.map aLa_i64 p1.Next)]), (4, .ptr 11 0 0), (5, .int .i64 (p1.Next.length : Int)), (6, .ptr 12 0 0), (7, .int .i64 s0.2)], [(11, .box [.snil]), (12, .box [.ow 70002]), (70002, .arr ⟨false, true⟩ 1 29 (List.map aLa_i64 s0.1))]⟩) (fun u0 => .exit 0) (fun u0 => ⟨[(4, .ptr 11 0 0), (6, .ptr 12 0 0)], [(11, .box [.snil]), (12, .box [.ow 70002]), (70002, .arr ⟨false, true⟩ 1 29 (List.map aLa_i64 u0))]⟩) (fun u0 => m_spec_l10Both_A0 u0 = some out) hl0 hm (fun u0 hm => ?_) (fun hx0 s0 c0 hm hc0 => ?_)
  · unfold m_spec_l10Both_A0 at hm
    refine T_seq ?_
    refine T_region ?_
    refine TL_pure rfl rfl rfl rfl (op_load_agg ag26 sz26 rfl rfl rfl) ?_
    refine TL_store_box sz26 rfl rfl rfl rfl rfl rfl rfl rfl rfl ?_
    refine TL_nil ?_
    refine T_keepH [4] [11, 70002] rfl rfl rfl rfl (by rw [hF]; rfl) ?_
    refine T_ren [(11, 11), (70002, 1000)] rfl rfl rfl (by rw [hF]; rfl) ?_
    refine T_ret ?_
    obtain rfl := someI hm
    refine ⟨[_], [1000], ⟨⟨_, _, rfl, rfl, .inr ⟨ag26, _, _, sz26, rfl, rfl⟩⟩, trivial⟩, ?_, rfl, rfl, rfl, rfl⟩
    rfl
  · unfold m_spec_l10Both_L0 at hm
    refine T_seq ?_
    refine T_seq ?_
    refine T_region ?_
    refine TL_pure rfl rfl rfl rfl (op_move rfl) ?_
    refine TL_pure rfl rfl rfl rfl (op_move rfl) ?_
    refine TL_pure rfl rfl rfl rfl (op_nilCheck rfl rfl) ?_
    refine TL_pure rfl rfl rfl rfl (op_fieldAddr fa26_0 rfl rfl) ?_
    refine TL_pure rfl rfl rfl rfl (op_load_one ag24 rfl rfl) ?_
    refine TL_pure rfl rfl rfl rfl (op_lenT Tryd.underlying24 rfl (List.length_map _)) ?_
    refine TL_fact (fun _ _ _ hr => RelP.slLen (i := 22) rfl hr) (fun hlen23 => ?_)
    rw [List.length_map] at hlen23
    refine TL_pure rfl rfl rfl rfl (op_move rfl) ?_
    refine TL_pure rfl rfl rfl rfl (op_mulW rfl rfl) ?_
    refine TL_pure rfl rfl rfl rfl (op_lss rfl rfl) ?_
    refine TL_nil ?_
    refine T_cond rfl (fun hq => ?_) (fun hq => ?_)
    · replace hm := condT hq hm
      refine T_skip ?_
      refine T_seq ?_
      refine T_block ?_
      refine T_seq ?_
      refine T_region ?_
      refine TL_buildSlice 30 (es := List.map a_i64 ([] : List Int)) el29 z2 rfl rfl rfl rfl rfl rfl rfl rfl rfl ?_
      refine TL_pure rfl rfl rfl rfl (op_assign rfl) ?_
      refine TL_nil ?_
      refine T_seq ?_
      refine T_seq ?_
      refine T_region ?_
      refine TL_pure rfl rfl rfl rfl (op_assign rfl) ?_
      refine TL_nil ?_
      refine T_block ?_
      refine T_keepH [0, 1, 4, 5, 6, 7, 8, 9] [11, 12, 30, 70002] rfl rfl rfl rfl (by rw [hF]; rfl) ?_
      refine T_loop ?_
      obtain ⟨u1, hl1, hm⟩ := bindS hm
      refine TR_iter2 (m_spec_l10Both_L1 p0 p1 s0) (fun (s1 : (List Int) × Int) => ⟨[(0, .cp [.sl 1 (List.map aLa_i64 p0.Next)]), (1, .cp [.sl 1 (List.map aLa_i64 p1.Next)]), (4, .ptr 11 0 0), (5, .int .i64 (p1.Next.length : Int)), (6, .ptr 12 0 0), (7, .int .i64 s0.2), (8, .ow 30), (9, .int .i64 s1.2)], [(11, .box [.snil]), (12, .box [.ow 70002]), (30, .arr ⟨false, false⟩ 1 2 (List.map a_i64 s1.1)), (70002, .arr ⟨false, true⟩ 1 29 (List.map aLa_i64 s0.1))]⟩) (fun u1 => .exit 2) (fun u1 => ⟨[(0, .cp [.sl 1 (List.map aLa_i64 p0.Next)]), (1, .cp [.sl 1 (List.map aLa_i64 p1.Next)]), (4, .ptr 11 0 0), (5, .int .i64 (p1.Next.length : Int)), (6, .ptr 12 0 0), (7, .int .i64 s0.2), (8, .ow 30)], [(11, .box [.snil]), (12, .box [.ow 70002]), (30, .arr ⟨false, false⟩ 1 2 (List.map a_i64 u1)), (70002, .arr ⟨false, true⟩ 1 29 (List.map aLa_i64 s0.1))]⟩) (fun u1 => m_spec_l10Both_A1 s0 u1 = some c0) hl1 hm (fun u1 hm => ?_) (fun hx1 s1 c1 hm hc1 => ?_)
      · unfold m_spec_l10Both_A1 at hm
        refine T_region ?_
        refine TL_pure rfl rfl rfl rfl (op_fieldAddr fa26_0 rfl rfl) ?_
        refine TL_pure rfl rfl rfl rfl (op_load_one ag24 rfl rfl) ?_
        refine TL_pure rfl rfl rfl rfl (op_move rfl) ?_
        refine TL_deepen 30 (p' := false) (List.map a_i64 u1) (by rw [hF]; rfl) rfl (ElR.map (f := a_i64) (g := a_i64) (fun _ => ⟨⟨rfl, rfl⟩, trivial⟩) u1) rfl rfl rfl ?_
        refine TL_buildSliceD (ids := [30]) (es := List.map aLa_i64 [u1]) 37 el24 z29 rfl rfl rfl rfl rfl rfl (by rw [hF]; intro j hj; simp only [List.mem_cons, List.not_mem_nil, or_false] at hj; rcases hj with rfl <;> rfl) rfl rfl rfl rfl rfl rfl ?_
        obtain ⟨q79, hq79, hm⟩ := bindS hm
        refine TL_appendDT (f := aLa_i64) (a := s0.1) (b := [u1]) el24 z29 rfl rfl rfl rfl rfl rfl rfl rfl (by rw [hF]; rfl) (capI_spec hq79) rfl rfl rfl rfl rfl ?_
        refine TL_pure rfl rfl rfl rfl (op_fieldAddr fa26_0 rfl rfl) ?_
        refine TL_store_box sz24 rfl rfl rfl rfl rfl rfl rfl rfl rfl ?_
        refine TL_nil ?_
        refine T_region ?_
        refine TL_pure rfl rfl rfl rfl (op_move rfl) ?_
        refine TL_pure rfl rfl rfl rfl (op_addW rfl rfl) ?_
        refine TL_pure rfl rfl rfl rfl (op_assign rfl) ?_
        refine TL_nil ?_
        refine TR_keepH [0, 1, 4, 5, 6, 7] [11, 12, 70002] rfl rfl rfl rfl (by rw [hF]; rfl) ?_
        obtain rfl := someI hm
        have hn := CtlOK_next hc0
        exact hn _ rfl
      · unfold m_spec_l10Both_L1 at hm
        refine T_seq ?_
        refine T_seq ?_
        refine T_region ?_
        refine TL_pure rfl rfl rfl rfl (op_move rfl) ?_
        refine TL_pure rfl rfl rfl rfl (op_lss rfl rfl) ?_
        refine TL_nil ?_
        refine T_cond rfl (fun hq => ?_) (fun hq => ?_)
        · replace hm := condT hq hm
          refine T_skip ?_
          refine T_seq ?_
          refine T_block ?_
          refine T_seq ?_
          refine T_drawZ [] mix (by kernel_rfl) rfl ?_
          obtain ⟨q40, hq40, hm⟩ := bindS hm
          obtain ⟨x41, hx41, hm⟩ := bindS hm
          obtain ⟨x44, hx44, hm⟩ := bindS hm
          refine TZ_pure 0 (by kernel_rfl) rfl rfl rfl rfl rfl (op_move rfl) ?_
          refine TZ_pure 1 (by kernel_rfl) rfl rfl rfl rfl rfl (op_nilCheck rfl rfl) ?_
          refine TZ_pure 2 (by kernel_rfl) rfl rfl rfl rfl rfl (op_fieldAddr fa26_0 rfl rfl) ?_
          refine TZ_pure 3 (by kernel_rfl) rfl rfl rfl rfl rfl (op_load_one ag24 rfl rfl) ?_
          refine TZ_pure 4 (by kernel_rfl) rfl rfl rfl rfl rfl (op_move rfl) ?_
          refine TZ_pure 5 (by kernel_rfl) rfl rfl rfl rfl rfl (op_move rfl) ?_
          refine TZ_pure 6 (by kernel_rfl) rfl rfl rfl rfl rfl (op_quoT rfl rfl hq40) ?_
          refine TZ_pure 7 (by kernel_rfl) rfl rfl rfl rfl rfl (op_indexT el24 rfl rfl hx41 rfl) ?_
          refine TZ_pure 8 (by kernel_rfl) rfl rfl rfl rfl rfl (op_load_one ag29 rfl rfl) ?_
          refine TZ_pure 9 (by kernel_rfl) rfl rfl rfl rfl rfl (op_move rfl) ?_
          refine TZ_pure 10 (by kernel_rfl) rfl rfl rfl rfl rfl (op_indexT el29 rfl rfl hx44 rfl) ?_
          refine TZ_pure 11 (by kernel_rfl) rfl rfl rfl rfl rfl (op_load_one ag2 rfl rfl) ?_
          refine TZ_pure 12 (by kernel_rfl) rfl rfl rfl rfl rfl (op_assign rfl) ?_
          refine TZ_done (by kernel_rfl) ?_
          refine T_seq ?_
          refine T_drawZ [] mix (by kernel_rfl) rfl ?_
          obtain ⟨q52, hq52, hm⟩ := bindS hm
          obtain ⟨x53, hx53, hm⟩ := bindS hm
          obtain ⟨x56, hx56, hm⟩ := bindS hm
          refine TZ_pure 0 (by kernel_rfl) rfl rfl rfl rfl rfl (op_move rfl) ?_
          refine TZ_pure 1 (by kernel_rfl) rfl rfl rfl rfl rfl (op_nilCheck rfl rfl) ?_
          refine TZ_pure 2 (by kernel_rfl) rfl rfl rfl rfl rfl (op_fieldAddr fa26_0 rfl rfl) ?_
          refine TZ_pure 3 (by kernel_rfl) rfl rfl rfl rfl rfl (op_load_one ag24 rfl rfl) ?_
          refine TZ_pure 4 (by kernel_rfl) rfl rfl rfl rfl rfl (op_move rfl) ?_
          refine TZ_pure 5 (by kernel_rfl) rfl rfl rfl rfl rfl (op_move rfl) ?_
          refine TZ_pure 6 (by kernel_rfl) rfl rfl rfl rfl rfl (op_remT rfl rfl hq52) ?_
          refine TZ_pure 7 (by kernel_rfl) rfl rfl rfl rfl rfl (op_indexT el24 rfl rfl hx53 rfl) ?_
          refine TZ_pure 8 (by kernel_rfl) rfl rfl rfl rfl rfl (op_load_one ag29 rfl rfl) ?_
          refine TZ_pure 9 (by kernel_rfl) rfl rfl rfl rfl rfl (op_move rfl) ?_
          refine TZ_pure 10 (by kernel_rfl) rfl rfl rfl rfl rfl (op_indexT el29 rfl rfl hx56 rfl) ?_
          refine TZ_pure 11 (by kernel_rfl) rfl rfl rfl rfl rfl (op_load_one ag2 rfl rfl) ?_
          refine TZ_pure 12 (by kernel_rfl) rfl rfl rfl rfl rfl (op_assign rfl) ?_
          refine TZ_done (by kernel_rfl) ?_
          refine T_seq ?_
          refine T_region ?_
          refine TL_pure rfl rfl rfl rfl (op_move rfl) ?_
          refine TL_pure rfl rfl rfl rfl (op_lss rfl rfl) ?_
          refine TL_pure rfl rfl rfl rfl (op_move rfl) ?_
          refine TL_join 3 (fun _ : Unit => ⟨[(0, .cp [.sl 1 (List.map aLa_i64 p0.Next)]), (1, .cp [.sl 1 (List.map aLa_i64 p1.Next)]), (4, .ptr 11 0 0), (5, .int .i64 (p1.Next.length : Int)), (6, .ptr 12 0 0), (7, .int .i64 s0.2), (8, .ow 30), (9, .int .i64 s1.2), (10, .int .i64 x44), (11, .int .i64 x56), (63, .bool ((decide (x44 < (0 : Int))) || (decide (x56 < (0 : Int)))))], [(11, .box [.snil]), (12, .box [.ow 70002]), (30, .arr ⟨false, false⟩ 1 2 (List.map a_i64 s1.1)), (70002, .arr ⟨false, true⟩ 1 29 (List.map aLa_i64 s0.1))]⟩) (fun _ => True) (fun _ _ => ?_) (fun hjj => ?_)
          · refine TL_nil ?_
            refine T_cond rfl (fun hq => ?_) (fun hq => ?_)
            · replace hm := condT hq hm
              refine T_region ?_
              refine TL_pure rfl rfl rfl rfl (op_move rfl) ?_
              refine TL_buildSlice 35 (es := List.map a_i64 [(-1 : Int)]) el29 z2 rfl rfl rfl rfl rfl rfl rfl rfl rfl ?_
              obtain ⟨q66, hq66, hm⟩ := bindS hm
              refine TL_appendT (f := a_i64) (a := s1.1) (b := [(-1 : Int)]) el29 z2 rfl rfl rfl rfl rfl rfl rfl (capI_spec hq66) rfl rfl rfl rfl rfl ?_
              refine TL_pure rfl rfl rfl rfl (op_assign rfl) ?_
              refine TL_nil ?_
              refine T_region ?_
              refine TL_pure rfl rfl rfl rfl (op_move rfl) ?_
              refine TL_pure rfl rfl rfl rfl (op_addW rfl rfl) ?_
              refine TL_pure rfl rfl rfl rfl (op_assign rfl) ?_
              refine TL_nil ?_
              refine TR_keepH [0, 1, 4, 5, 6, 7, 8, 9] [11, 12, 30, 70002] rfl rfl rfl rfl (by rw [hF]; rfl) ?_
              obtain rfl := someI hm
              have hn := CtlOK_next hc1
              exact hn _ rfl
            · replace hm := condF hq hm
              refine T_region ?_
              refine TL_pure rfl rfl rfl rfl (op_move rfl) ?_
              refine TL_pure rfl rfl rfl rfl (op_move rfl) ?_
              refine TL_pure rfl rfl rfl rfl (op_move rfl) ?_
              refine TL_pure rfl rfl rfl rfl (op_mulW rfl rfl) ?_
              refine TL_pure rfl rfl rfl rfl (op_move rfl) ?_
              refine TL_pure rfl rfl rfl rfl (op_addW rfl rfl) ?_
              refine TL_buildSlice 36 (es := List.map a_i64 [(w64 ((w64 (x44 * (p1.Next.length : Int))) + x56))]) el29 z2 rfl rfl rfl rfl rfl rfl rfl rfl rfl ?_
              obtain ⟨q74, hq74, hm⟩ := bindS hm
              refine TL_appendT (f := a_i64) (a := s1.1) (b := [(w64 ((w64 (x44 * (p1.Next.length : Int))) + x56))]) el29 z2 rfl rfl rfl rfl rfl rfl rfl (capI_spec hq74) rfl rfl rfl rfl rfl ?_
              refine TL_pure rfl rfl rfl rfl (op_assign rfl) ?_
              refine TL_nil ?_
              refine T_region ?_
              refine TL_pure rfl rfl rfl rfl (op_move rfl) ?_
              refine TL_pure rfl rfl rfl rfl (op_addW rfl rfl) ?_
              refine TL_pure rfl rfl rfl rfl (op_assign rfl) ?_
              refine TL_nil ?_
              refine TR_keepH [0, 1, 4, 5, 6, 7, 8, 9] [11, 12, 30, 70002] rfl rfl rfl rfl (by rw [hF]; rfl) ?_
              obtain rfl := someI hm
              have hn := CtlOK_next hc1
              exact hn _ rfl
          · refine TL_split 60 rfl rfl rfl (fun hq => ?_) (fun hq => ?_)
            · refine TL_pass rfl rfl rfl rfl rfl rfl rfl ?_
              refine TL_pass rfl rfl rfl rfl rfl rfl rfl ?_
              refine TL_pure rfl rfl rfl rfl (op_pick_true rfl rfl) ?_
              refine TL_keepH [0, 1, 4, 5, 6, 7, 8, 9, 10, 11, 63] [11, 12, 30, 70002] rfl rfl rfl rfl (by rw [hF]; rfl) ?_
              exact TL_cast _ (by first | (rw [hq, Bool.true_or]; done) | (rw [hq]; rfl)) (hjj () trivial)
            · refine TL_want rfl rfl ?_
              refine TL_pure rfl rfl rfl rfl (op_move rfl) ?_
              refine TL_want rfl rfl ?_
              refine TL_pure rfl rfl rfl rfl (op_lss rfl rfl) ?_
              refine TL_pure rfl rfl rfl rfl (op_pick_false rfl rfl) ?_
              refine TL_keepH [0, 1, 4, 5, 6, 7, 8, 9, 10, 11, 63] [11, 12, 30, 70002] rfl rfl rfl rfl (by rw [hF]; rfl) ?_
              exact TL_cast _ (by first | (rw [hq, Bool.false_or]; done) | (rw [hq]; rfl)) (hjj () trivial)
        · replace hm := condF hq hm
          refine T_keepH [0, 1, 4, 5, 6, 7, 8] [11, 12, 30, 70002] rfl rfl rfl rfl (by rw [hF]; rfl) ?_
          refine T_exit ?_
          obtain rfl := someI hm
          have hn := CtlOK_out hc1
          exact hx1 s1.1 hn
    · replace hm := condF hq hm
      refine T_keepH [4, 6] [11, 12, 70002] rfl rfl rfl rfl (by rw [hF]; rfl) ?_
      refine T_exit ?_
      obtain rfl := someI hm
      have hn := CtlOK_out hc0
      exact hx0 s0.1 hn
theorem c_spec_BothPolicies (p0 : Policy) (p1 : Policy) (out : Policy × Bool) (hm : m_spec_BothPolicies p0 p1 = some out) : ACall Tryd.prog 15 [.agg [.sl 1 (List.map aLa_i64 p0.Next)], .agg [.sl 1 (List.map aLa_i64 p1.Next)]] [] (.tup [.agg [.ow 1000], .bool out.2]) [(1000, .arr ⟨false, true⟩ 1 29 (List.map aLa_i64 out.1.Next))] := by
  refine ACall.intro Tryd.func15 rfl Tryd.ntmps15 rfl (fun F hF => ?_)
  unfold m_spec_BothPolicies at hm
  refine T_seq ?_
  refine T_region ?_
  refine TL_box 11 rfl rfl rfl rfl rfl rfl rfl ?_
  refine TL_box 12 rfl rfl rfl rfl rfl rfl rfl ?_
  refine TL_alloc 13 z26 rfl rfl rfl rfl rfl rfl rfl ?_
  refine TL_pure rfl rfl rfl rfl (op_assign rfl) ?_
  refine TL_nil ?_
  refine T_seq ?_
  refine T_seq ?_
  refine T_region ?_
  obtain ⟨r8, hr8, hm⟩ := bindS hm
  refine TL_callF (ACall.F (F := F) (c_spec_l10Is p0 r8 hr8)) Tryd.call29 rfl rfl rfl rfl rfl ?_
  refine TL_pure rfl rfl rfl rfl (op_not rfl) ?_
  refine TL_pure rfl rfl rfl rfl (op_move rfl) ?_
  refine TL_split 10 rfl rfl rfl (fun hq => ?_) (fun hq => ?_)
  · replace hm := condT hq hm
    refine TL_pass rfl rfl rfl rfl rfl rfl rfl ?_
    refine TL_pass rfl rfl rfl rfl rfl rfl rfl ?_
    refine TL_pure rfl rfl rfl rfl (op_pick_true rfl rfl) ?_
    refine TL_nil ?_
    refine T_cond_true rfl ?_
    refine T_seq ?_
    refine T_region ?_
    refine TL_pure rfl rfl rfl rfl (op_buildP pl26 z26 rfl rfl rfl rfl rfl) ?_
    refine TL_store_box sz26 rfl rfl rfl rfl rfl rfl rfl rfl rfl ?_
    refine TL_pure rfl rfl rfl rfl (op_assign rfl) ?_
    refine TL_nil ?_
    refine T_ownNilBox 13 0 14 ⟨false, true⟩ 29 rfl rfl rfl (sz := 1) rfl rfl rfl rfl ?_
    refine T_keepH [4, 5] [13, 14] rfl rfl rfl rfl (by rw [hF]; rfl) ?_
    refine T_ren [(13, 13), (14, 1000)] rfl rfl rfl (by rw [hF]; rfl) ?_
    refine T_ret ?_
    obtain rfl := someI hm
    refine ⟨[_, _], [1000], ⟨⟨_, _, rfl, rfl, .inr ⟨ag26, _, _, sz26, rfl, rfl⟩⟩, rfl, trivial⟩, ?_, rfl, rfl, rfl, rfl⟩
    rfl
  · replace hm := condF hq hm
    refine TL_want rfl rfl ?_
    obtain ⟨r11, hr11, hm⟩ := bindS hm
    refine TL_callF (ACall.F (F := F) (c_spec_l10Is p1 r11 hr11)) Tryd.call29 rfl rfl rfl rfl rfl ?_
    refine TL_want rfl rfl ?_
    refine TL_pure rfl rfl rfl rfl (op_not rfl) ?_
    refine TL_pure rfl rfl rfl rfl (op_pick_false rfl rfl) ?_
    refine TL_nil ?_
    refine T_cond rfl (fun hq => ?_) (fun hq => ?_)
    · replace hm := condT hq hm
      refine T_seq ?_
      refine T_region ?_
      refine TL_pure rfl rfl rfl rfl (op_buildP pl26 z26 rfl rfl rfl rfl rfl) ?_
      refine TL_store_box sz26 rfl rfl rfl rfl rfl rfl rfl rfl rfl ?_
      refine TL_pure rfl rfl rfl rfl (op_assign rfl) ?_
      refine TL_nil ?_
      refine T_ownNilBox 13 0 15 ⟨false, true⟩ 29 rfl rfl rfl (sz := 1) rfl rfl rfl rfl ?_
      refine T_keepH [4, 5] [13, 15] rfl rfl rfl rfl (by rw [hF]; rfl) ?_
      refine T_ren [(13, 13), (15, 1000)] rfl rfl rfl (by rw [hF]; rfl) ?_
      refine T_ret ?_
      obtain rfl := someI hm
      refine ⟨[_, _], [1000], ⟨⟨_, _, rfl, rfl, .inr ⟨ag26, _, _, sz26, rfl, rfl⟩⟩, rfl, trivial⟩, ?_, rfl, rfl, rfl, rfl⟩
      rfl
    · replace hm := condF hq hm
      refine T_skip ?_
      refine T_seq ?_
      refine T_region ?_
      obtain ⟨r15, hr15, hm⟩ := bindS hm
      refine TL_callO [(1000, 16)] (ACall.F (F := F) (c_spec_l10Both p0 p1 r15 hr15)) Tryd.call40 rfl rfl rfl rfl rfl rfl rfl rfl rfl rfl rfl rfl rfl ?_
      refine TL_alloc 17 z26 rfl rfl rfl rfl rfl rfl rfl ?_
      refine TL_store_box sz26 rfl rfl rfl rfl rfl rfl rfl rfl rfl ?_
      refine TL_nil ?_
      refine T_seq ?_
      refine T_region ?_
      obtain ⟨r16, hr16, hm⟩ := bindS hm
      refine TL_callO [(1000, 18)] (ACall.F (F := F) (c_spec_l10Minimal r15 r16 hr16)) Tryd.call41 rfl rfl rfl rfl rfl rfl rfl rfl rfl rfl rfl rfl rfl ?_
      refine TL_alloc 19 z26 rfl rfl rfl rfl rfl rfl rfl ?_
      refine TL_store_box sz26 rfl rfl rfl rfl rfl rfl rfl rfl rfl ?_
      refine TL_nil ?_
      refine T_seq ?_
      refine T_seq ?_
      refine T_region ?_
      refine TL_pure rfl rfl rfl rfl (op_fieldAddr fa26_0 rfl rfl) ?_
      refine TL_pure rfl rfl rfl rfl (op_load_one ag24 rfl rfl) ?_
      refine TL_pure rfl rfl rfl rfl (op_lenO Tryd.underlying24 rfl rfl (List.length_map _)) ?_
      refine TL_fact (fun _ _ _ hr => RelP.owLen (id := 18) rfl hr) (fun hlen19 => ?_)
      rw [List.length_map] at hlen19
      refine TL_pure rfl rfl rfl rfl (op_gtr rfl rfl) ?_
      refine TL_nil ?_
      refine T_cond rfl (fun hq => ?_) (fun hq => ?_)
      · replace hm := condT hq hm
        refine T_seq ?_
        refine T_region ?_
        refine TL_pure rfl rfl rfl rfl (op_buildP pl26 z26 rfl rfl rfl rfl rfl) ?_
        refine TL_store_box sz26 rfl rfl rfl rfl rfl rfl rfl rfl rfl ?_
        refine TL_pure rfl rfl rfl rfl (op_assign rfl) ?_
        refine TL_nil ?_
        refine T_ownNilBox 13 0 20 ⟨false, true⟩ 29 rfl rfl rfl (sz := 1) rfl rfl rfl rfl ?_
        refine T_keepH [4, 5] [13, 20] rfl rfl rfl rfl (by rw [hF]; rfl) ?_
        refine T_ren [(13, 13), (20, 1000)] rfl rfl rfl (by rw [hF]; rfl) ?_
        refine T_ret ?_
        obtain rfl := someI hm
        refine ⟨[_, _], [1000], ⟨⟨_, _, rfl, rfl, .inr ⟨ag26, _, _, sz26, rfl, rfl⟩⟩, rfl, trivial⟩, ?_, rfl, rfl, rfl, rfl⟩
        rfl
      · replace hm := condF hq hm
        refine T_skip ?_
        refine T_seq ?_
        refine T_region ?_
        refine TL_pure rfl rfl rfl rfl (op_load_agg ag26 sz26 rfl rfl rfl) ?_
        refine TL_store_box sz26 rfl rfl rfl rfl rfl rfl rfl rfl rfl ?_
        refine TL_pure rfl rfl rfl rfl (op_assign rfl) ?_
        refine TL_nil ?_
        refine T_keepH [4, 5] [13, 18] rfl rfl rfl rfl (by rw [hF]; rfl) ?_
        refine T_ren [(13, 13), (18, 1000)] rfl rfl rfl (by rw [hF]; rfl) ?_
        refine T_ret ?_
        obtain rfl := someI hm
        refine ⟨[_, _], [1000], ⟨⟨_, _, rfl, rfl, .inr ⟨ag26, _, _, sz26, rfl, rfl⟩⟩, rfl, trivial⟩, ?_, rfl, rfl, rfl, rfl⟩
        rfl
theorem c_laws_FnDifference (p0 : List Int) (p1 : List Int) (out : Bool) (hm : m_laws_FnDifference p0 p1 = some out) : ACallG gl Tryd.prog 3 [.sl 1 (List.map a_u8 p0), .sl 1 (List.map a_u8 p1)] [] (.bool out) [] := by
  refine ACallG.intro (g := gl) Tryd.func3 rfl Tryd.ntmps3 rfl (fun F hF hI hg => ?_)
  unfold m_laws_FnDifference at hm
  refine T_seq ?_
  refine T_region ?_
  refine TL_pure rfl rfl rfl rfl (op_assign rfl) ?_
  refine TL_nil ?_
  refine T_seq ?_
  refine T_seq ?_
  refine T_region ?_
  refine TL_pure rfl rfl rfl rfl (op_move rfl) ?_
  refine TL_pure rfl rfl rfl rfl (op_move rfl) ?_
  obtain ⟨r32, hr32, hm⟩ := bindS hm
  refine TL_callF (ACall.F (F := F) (c_laws_b10Long p0 p1 r32 hr32)) Tryd.call8 rfl rfl rfl rfl rfl ?_
  refine TL_nil ?_
  refine T_cond rfl (fun hq => ?_) (fun hq => ?_)
  · replace hm := condT hq hm
    refine T_seq ?_
    refine T_region ?_
    refine TL_pure rfl rfl rfl rfl (op_assign rfl) ?_
    refine TL_nil ?_
    refine T_keepH [4] [] rfl rfl rfl rfl (by rw [hF]; rfl) ?_
    refine T_ret ?_
    obtain rfl := someI hm
    refine ⟨[_], [], ⟨rfl, trivial⟩, ?_, rfl, rfl, rfl, rfl⟩
    rfl
  · replace hm := condF hq hm
    refine T_skip ?_
    refine T_seq ?_
    refine T_region ?_
    refine TL_pure rfl rfl rfl rfl (op_move rfl) ?_
    obtain ⟨r35, hr35, hm⟩ := bindS hm
    refine TL_callT (ACall.F (F := F) (c_spec_B10Policies p0 r35 hr35)) Tryd.call9 rfl rfl rfl rfl rfl ?_
    refine TL_pure rfl rfl rfl rfl (op_move rfl) ?_
    refine TL_pure rfl rfl rfl rfl (op_extract rfl rfl) ?_
    refine TL_pure rfl rfl rfl rfl (op_extract rfl rfl) ?_
    refine TL_alloc 11 z26 rfl rfl rfl rfl rfl rfl rfl ?_
    refine TL_alloc 12 z26 rfl rfl rfl rfl rfl rfl rfl ?_
    refine TL_store_box sz26 rfl rfl rfl rfl rfl rfl rfl rfl rfl ?_
    refine TL_store_box sz26 rfl rfl rfl rfl rfl rfl rfl rfl rfl ?_
    refine TL_nil ?_
    refine T_seq ?_
    refine T_region ?_
    refine TL_pure rfl rfl rfl rfl (op_move rfl) ?_
    obtain ⟨r39, hr39, hm⟩ := bindS hm
    refine TL_callO [(1000, 13)] (ACall.F (F := F) (c_spec_B10Word p1 r39 hr39)) Tryd.call10 rfl rfl rfl rfl rfl rfl rfl rfl rfl rfl rfl rfl rfl ?_
    refine TL_pure rfl rfl rfl rfl (op_assign rfl) ?_
    refine TL_nil ?_
    refine T_seq ?_
    refine T_region ?_
    refine TL_pure rfl rfl rfl rfl (op_load_agg ag26 sz26 rfl rfl rfl) ?_
    refine TL_pure rfl rfl rfl rfl (op_load_agg ag26 sz26 rfl rfl rfl) ?_
    obtain ⟨r43, hr43, hm⟩ := bindS hm
    refine TL_callO [(1000, 14)] (ACall.F (F := F) (c_impl_DifferenceOf r35.1 r35.2 r43 hr43)) Tryd.call11 rfl rfl rfl rfl rfl rfl rfl rfl rfl rfl rfl rfl rfl ?_
    refine TL_pure rfl rfl rfl rfl (op_move rfl) ?_
    refine TL_pure rfl rfl rfl rfl (op_extract rfl rfl) ?_
    refine TL_pure rfl rfl rfl rfl (op_extract rfl rfl) ?_
    refine TL_pure rfl rfl rfl rfl (op_assign rfl) ?_
    refine TL_pure rfl rfl rfl rfl (op_assign rfl) ?_
    refine TL_nil ?_
    refine T_seq ?_
    refine T_region ?_
    refine TL_pure rfl rfl rfl rfl (op_load_agg ag26 sz26 rfl rfl rfl) ?_
    refine TL_pure rfl rfl rfl rfl (op_move rfl) ?_
    obtain ⟨r49, hr49, hm⟩ := bindS hm
    refine TL_callF (ACall.F (F := F) (c_impl_RunPolicy r35.1 r39 r49 hr49)) Tryd.call12 rfl rfl rfl rfl rfl ?_
    refine TL_pure rfl rfl rfl rfl (op_move rfl) ?_
    refine TL_pure rfl rfl rfl rfl (op_extract rfl rfl) ?_
    refine TL_pure rfl rfl rfl rfl (op_extract rfl rfl) ?_
    refine TL_pure rfl rfl rfl rfl (op_extract rfl rfl) ?_
    refine TL_pure rfl rfl rfl rfl (op_assign rfl) ?_
    refine TL_pure rfl rfl rfl rfl (op_assign rfl) ?_
    refine TL_pure rfl rfl rfl rfl (op_assign rfl) ?_
    refine TL_nil ?_
    refine T_seq ?_
    refine T_region ?_
    refine TL_pure rfl rfl rfl rfl (op_load_agg ag26 sz26 rfl rfl rfl) ?_
    refine TL_pure rfl rfl rfl rfl (op_move rfl) ?_
    obtain ⟨r56, hr56, hm⟩ := bindS hm
    refine TL_callF (ACall.F (F := F) (c_impl_RunPolicy r35.2 r39 r56 hr56)) Tryd.call12 rfl rfl rfl rfl rfl ?_
    refine TL_pure rfl rfl rfl rfl (op_move rfl) ?_
    refine TL_pure rfl rfl rfl rfl (op_extract rfl rfl) ?_
    refine TL_pure rfl rfl rfl rfl (op_extract rfl rfl) ?_
    refine TL_pure rfl rfl rfl rfl (op_extract rfl rfl) ?_
    refine TL_pure rfl rfl rfl rfl (op_assign rfl) ?_
    refine TL_pure rfl rfl rfl rfl (op_assign rfl) ?_
    refine TL_pure rfl rfl rfl rfl (op_assign rfl) ?_
    refine TL_nil ?_
    refine T_seq ?_
    refine T_region ?_
    refine TL_pure rfl rfl rfl rfl (op_load_agg ag26 sz26 rfl rfl rfl) ?_
    refine TL_pure rfl rfl rfl rfl (op_load_agg ag26 sz26 rfl rfl rfl) ?_
    obtain ⟨r63, hr63, hm⟩ := bindS hm
    refine TL_callO [(1000, 15)] (ACallG.F hI hg (c_impl_BothPolicies r35.1 r35.2 r63 hr63)) Tryd.call13 rfl rfl rfl rfl rfl rfl rfl rfl rfl rfl rfl rfl rfl ?_
    refine TL_pure rfl rfl rfl rfl (op_move rfl) ?_
    refine TL_pure rfl rfl rfl rfl (op_extract rfl rfl) ?_
    refine TL_pure rfl rfl rfl rfl (op_extract rfl rfl) ?_
    refine TL_alloc 16 z26 rfl rfl rfl rfl rfl rfl rfl ?_
    refine TL_store_box sz26 rfl rfl rfl rfl rfl rfl rfl rfl rfl ?_
    refine TL_pure rfl rfl rfl rfl (op_assign rfl) ?_
    refine TL_nil ?_
    refine T_seq ?_
    refine T_seq ?_
    refine T_region ?_
    refine TL_pure rfl rfl rfl rfl (op_move rfl) ?_
    refine TL_pure rfl rfl rfl rfl (op_not rfl) ?_
    refine TL_pure rfl rfl rfl rfl (op_move rfl) ?_
    refine TL_join 3 (fun _ : Unit => ⟨[(5, .ptr 11 0 0), (6, .ptr 12 0 0), (7, .ow 13), (8, .ow 14), (9, .bool r43.2), (10, .int .i64 r49.1), (13, .int .i64 r56.1), (16, .ptr 16 0 0), (17, .bool r63.2), (71, .bool ((!r49.2.2) || (!r56.2.2)))], [(11, .box [.sl 1 (List.map aLa_i64 r35.1.Next)]), (12, .box [.sl 1 (List.map aLa_i64 r35.2.Next)]), (13, .arr ⟨false, true⟩ 1 2 (List.map a_i64 r39)), (14, .arr ⟨false, true⟩ 1 2 (List.map a_i64 r43.1)), (15, .arr ⟨false, true⟩ 1 29 (List.map aLa_i64 r63.1.Next)), (16, .box [.ow 15])]⟩) (fun _ => True) (fun _ _ => ?_) (fun hjj => ?_)
    · refine TL_nil ?_
      refine T_cond rfl (fun hq => ?_) (fun hq => ?_)
      · replace hm := condT hq hm
        refine T_seq ?_
        refine T_region ?_
        refine TL_pure rfl rfl rfl rfl (op_assign rfl) ?_
        refine TL_nil ?_
        refine T_keepH [4] [] rfl rfl rfl rfl (by rw [hF]; rfl) ?_
        refine T_ret ?_
        obtain rfl := someI hm
        refine ⟨[_], [], ⟨rfl, trivial⟩, ?_, rfl, rfl, rfl, rfl⟩
        rfl
      · replace hm := condF hq hm
        refine T_skip ?_
        refine T_join (fun (j0 : Unit) => ⟨[(5, .ptr 11 0 0), (6, .ptr 12 0 0), (7, .ow 13), (10, .int .i64 r49.1), (13, .int .i64 r56.1), (16, .ptr 16 0 0), (17, .bool r63.2)], [(11, .box [.sl 1 (List.map aLa_i64 r35.1.Next)]), (12, .box [.sl 1 (List.map aLa_i64 r35.2.Next)]), (13, .arr ⟨false, true⟩ 1 2 (List.map a_i64 r39)), (15, .arr ⟨false, true⟩ 1 29 (List.map aLa_i64 r63.1.Next)), (16, .box [.ow 15])]⟩) (fun j0 => m_laws_FnDifference_J0 r35 r39 r49 r56 r63 j0 = some out) (fun j0 hm => ?_) (fun hj0 => ?_)
        · unfold m_laws_FnDifference_J0 at hm
          refine T_seq ?_
          refine T_seq ?_
          refine T_region ?_
          refine TL_pure rfl rfl rfl rfl (op_move rfl) ?_
          refine TL_nil ?_
          refine T_cond rfl (fun hq => ?_) (fun hq => ?_)
          · replace hm := condT hq hm
            refine T_seq ?_
            refine T_region ?_
            refine TL_pure rfl rfl rfl rfl (op_load_agg ag26 sz26 rfl rfl rfl) ?_
            refine TL_pure rfl rfl rfl rfl (op_move rfl) ?_
            obtain ⟨r121, hr121, hm⟩ := bindS hm
            refine TL_callF (ACall.F (F := F) (c_impl_RunPolicy r63.1 r39 r121 hr121)) Tryd.call12 rfl rfl rfl rfl rfl ?_
            refine TL_pure rfl rfl rfl rfl (op_move rfl) ?_
            refine TL_pure rfl rfl rfl rfl (op_extract rfl rfl) ?_
            refine TL_pure rfl rfl rfl rfl (op_extract rfl rfl) ?_
            refine TL_pure rfl rfl rfl rfl (op_extract rfl rfl) ?_
            refine TL_pure rfl rfl rfl rfl (op_assign rfl) ?_
            refine TL_pure rfl rfl rfl rfl (op_assign rfl) ?_
            refine TL_pure rfl rfl rfl rfl (op_assign rfl) ?_
            refine TL_nil ?_
            refine T_seq ?_
            refine T_region ?_
            refine TL_pure rfl rfl rfl rfl (op_move rfl) ?_
            refine TL_pure rfl rfl rfl rfl (op_assign rfl) ?_
            refine TL_nil ?_
            refine T_join (fun (j1 : Int) => ⟨[(5, .ptr 11 0 0), (6, .ptr 12 0 0), (16, .ptr 16 0 0), (24, .int .i64 r121.1), (26, .bool r121.2.2), (27, .int .i64 j1)], [(11, .box [.sl 1 (List.map aLa_i64 r35.1.Next)]), (12, .box [.sl 1 (List.map aLa_i64 r35.2.Next)]), (15, .arr ⟨false, true⟩ 1 29 (List.map aLa_i64 r63.1.Next)), (16, .box [.ow 15])]⟩) (fun j1 => m_laws_FnDifference_J1 r35 r63 r121 j1 = some out) (fun j1 hm => ?_) (fun hj1 => ?_)
            · unfold m_laws_FnDifference_J1 at hm
              refine T_seq ?_
              refine T_region ?_
              refine TL_pure rfl rfl rfl rfl (op_move rfl) ?_
              refine TL_pure rfl rfl rfl rfl (op_move rfl) ?_
              refine TL_join 4 (fun _ : Unit => ⟨[(5, .ptr 11 0 0), (6, .ptr 12 0 0), (16, .ptr 16 0 0), (135, .bool (r121.2.2 && (decide (r121.1 = j1))))], [(11, .box [.sl 1 (List.map aLa_i64 r35.1.Next)]), (12, .box [.sl 1 (List.map aLa_i64 r35.2.Next)]), (15, .arr ⟨false, true⟩ 1 29 (List.map aLa_i64 r63.1.Next)), (16, .box [.ow 15])]⟩) (fun _ => True) (fun _ _ => ?_) (fun hjj => ?_)
              · refine TL_pure rfl rfl rfl rfl (op_move rfl) ?_
                refine TL_split 136 rfl rfl rfl (fun hq => ?_) (fun hq => ?_)
                · replace hm := condT hq hm
                  refine TL_want rfl rfl ?_
                  refine TL_pure rfl rfl rfl rfl (op_load_agg ag26 sz26 rfl rfl rfl) ?_
                  refine TL_want rfl rfl ?_
                  refine TL_pure rfl rfl rfl rfl (op_load_agg ag26 sz26 rfl rfl rfl) ?_
                  refine TL_want rfl rfl ?_
                  obtain ⟨r139, hr139, hm⟩ := bindS hm
                  refine TL_callF (ACall.F (F := F) (c_impl_IsStricter r63.1 r35.1 r139 hr139)) Tryd.call14 rfl rfl rfl rfl rfl ?_
                  refine TL_pure rfl rfl rfl rfl (op_pick_true rfl rfl) ?_
                  refine TL_pure rfl rfl rfl rfl (op_move rfl) ?_
                  refine TL_split 141 rfl rfl rfl (fun hq => ?_) (fun hq => ?_)
                  · replace hm := condT hq hm
                    refine TL_want rfl rfl ?_
                    refine TL_pure rfl rfl rfl rfl (op_load_agg ag26 sz26 rfl rfl rfl) ?_
                    refine TL_want rfl rfl ?_
                    refine TL_pure rfl rfl rfl rfl (op_load_agg ag26 sz26 rfl rfl rfl) ?_
                    refine TL_want rfl rfl ?_
                    obtain ⟨r144, hr144, hm⟩ := bindS hm
                    refine TL_callF (ACall.F (F := F) (c_impl_IsStricter r63.1 r35.2 r144 hr144)) Tryd.call14 rfl rfl rfl rfl rfl ?_
                    refine TL_pure rfl rfl rfl rfl (op_pick_true rfl rfl) ?_
                    refine TL_pure rfl rfl rfl rfl (op_assign rfl) ?_
                    refine TL_nil ?_
                    refine T_keepH [4] [] rfl rfl rfl rfl (by rw [hF]; rfl) ?_
                    refine T_ret ?_
                    obtain rfl := someI hm
                    refine ⟨[_], [], ⟨rfl, trivial⟩, ?_, rfl, rfl, rfl, rfl⟩
                    rfl
                  · replace hm := condF hq hm
                    refine TL_pass rfl rfl rfl rfl rfl rfl rfl ?_
                    refine TL_pass rfl rfl rfl rfl rfl rfl rfl ?_
                    refine TL_pass rfl rfl rfl rfl rfl rfl rfl ?_
                    refine TL_pure rfl rfl rfl rfl (op_pick_false rfl rfl) ?_
                    refine TL_pure rfl rfl rfl rfl (op_assign rfl) ?_
                    refine TL_nil ?_
                    refine T_keepH [4] [] rfl rfl rfl rfl (by rw [hF]; rfl) ?_
                    refine T_ret ?_
                    obtain rfl := someI hm
                    refine ⟨[_], [], ⟨rfl, trivial⟩, ?_, rfl, rfl, rfl, rfl⟩
                    rfl
                · replace hm := condF hq hm
                  refine TL_pass rfl rfl rfl rfl rfl rfl rfl ?_
                  refine TL_pass rfl rfl rfl rfl rfl rfl rfl ?_
                  refine TL_pass rfl rfl rfl rfl rfl rfl rfl ?_
                  refine TL_pure rfl rfl rfl rfl (op_pick_false rfl rfl) ?_
                  refine TL_pure rfl rfl rfl rfl (op_move rfl) ?_
                  refine TL_pass rfl rfl rfl rfl rfl rfl rfl ?_
                  refine TL_pass rfl rfl rfl rfl rfl rfl rfl ?_
                  refine TL_pass rfl rfl rfl rfl rfl rfl rfl ?_
                  refine TL_pure rfl rfl rfl rfl (op_pick_false rfl rfl) ?_
                  refine TL_pure rfl rfl rfl rfl (op_assign rfl) ?_
                  refine TL_nil ?_
                  refine T_keepH [4] [] rfl rfl rfl rfl (by rw [hF]; rfl) ?_
                  refine T_ret ?_
                  obtain rfl := someI hm
                  refine ⟨[_], [], ⟨rfl, trivial⟩, ?_, rfl, rfl, rfl, rfl⟩
                  rfl
              · refine TL_split 131 rfl rfl rfl (fun hq => ?_) (fun hq => ?_)
                · refine TL_want rfl rfl ?_
                  refine TL_pure rfl rfl rfl rfl (op_move rfl) ?_
                  refine TL_want rfl rfl ?_
                  refine TL_pure rfl rfl rfl rfl (op_move rfl) ?_
                  refine TL_want rfl rfl ?_
                  refine TL_pure rfl rfl rfl rfl (op_eql rfl rfl) ?_
                  refine TL_pure rfl rfl rfl rfl (op_pick_true rfl rfl) ?_
                  refine TL_keepH [5, 6, 16, 135] [11, 12, 15, 16] rfl rfl rfl rfl (by rw [hF]; rfl) ?_
                  exact TL_cast _ (by first | (rw [hq, Bool.true_and]; done) | (rw [hq]; rfl)) (hjj () trivial)
                · refine TL_pass rfl rfl rfl rfl rfl rfl rfl ?_
                  refine TL_pass rfl rfl rfl rfl rfl rfl rfl ?_
                  refine TL_pass rfl rfl rfl rfl rfl rfl rfl ?_
                  refine TL_pure rfl rfl rfl rfl (op_pick_false rfl rfl) ?_
                  refine TL_keepH [5, 6, 16, 135] [11, 12, 15, 16] rfl rfl rfl rfl (by rw [hF]; rfl) ?_
                  exact TL_cast _ (by first | (rw [hq, Bool.false_and]; done) | (rw [hq]; rfl)) (hjj () trivial)
            · refine T_seq ?_
              refine T_region ?_
              refine TL_pure rfl rfl rfl rfl (op_move rfl) ?_
              refine TL_pure rfl rfl rfl rfl (op_move rfl) ?_
              refine TL_pure rfl rfl rfl rfl (op_lss rfl rfl) ?_
              refine TL_nil ?_
              refine T_cond rfl (fun hq => ?_) (fun hq => ?_)
              · replace hm := condT hq hm
                refine T_region ?_
                refine TL_pure rfl rfl rfl rfl (op_move rfl) ?_
                refine TL_pure rfl rfl rfl rfl (op_assign rfl) ?_
                refine TL_nil ?_
                refine T_keepH [5, 6, 16, 24, 26, 27] [11, 12, 15, 16] rfl rfl rfl rfl (by rw [hF]; rfl) ?_
                exact hj1 r56.1 hm
              · replace hm := condF hq hm
                refine T_skip ?_
                refine T_keepH [5, 6, 16, 24, 26, 27] [11, 12, 15, 16] rfl rfl rfl rfl (by rw [hF]; rfl) ?_
                exact hj1 r49.1 hm
          · replace hm := condF hq hm
            refine T_skip ?_
            refine T_seq ?_
            refine T_region ?_
            refine TL_pure rfl rfl rfl rfl (op_load_agg ag26 sz26 rfl rfl rfl) ?_
            refine TL_pure rfl rfl rfl rfl (op_load_agg ag26 sz26 rfl rfl rfl) ?_
            obtain ⟨r149, hr149, hm⟩ := bindS hm
            refine TL_callO [(1000, 17)] (ACall.F (F := F) (c_spec_BothPolicies r35.1 r35.2 r149 hr149)) Tryd.call15 rfl rfl rfl rfl rfl rfl rfl rfl rfl rfl rfl rfl rfl ?_
            refine TL_pure rfl rfl rfl rfl (op_move rfl) ?_
            refine TL_pure rfl rfl rfl rfl (op_extract rfl rfl) ?_
            refine TL_pure rfl rfl rfl rfl (op_extract rfl rfl) ?_
            refine TL_alloc 18 z26 rfl rfl rfl rfl rfl rfl rfl ?_
            refine TL_store_box sz26 rfl rfl rfl rfl rfl rfl rfl rfl rfl ?_
            refine TL_pure rfl rfl rfl rfl (op_assign rfl) ?_
            refine TL_nil ?_
            refine T_seq ?_
            refine T_region ?_
            refine TL_pure rfl rfl rfl rfl (op_move rfl) ?_
            refine TL_pure rfl rfl rfl rfl (op_not rfl) ?_
            refine TL_pure rfl rfl rfl rfl (op_assign rfl) ?_
            refine TL_nil ?_
            refine T_keepH [4] [] rfl rfl rfl rfl (by rw [hF]; rfl) ?_
            refine T_ret ?_
            obtain rfl := someI hm
            refine ⟨[_], [], ⟨rfl, trivial⟩, ?_, rfl, rfl, rfl, rfl⟩
            rfl
        · refine T_seq ?_
          refine T_region ?_
          refine TL_pure rfl rfl rfl rfl (op_move rfl) ?_
          refine TL_nil ?_
          refine T_cond rfl (fun hq => ?_) (fun hq => ?_)
          · replace hm := condT hq hm
            refine T_seq ?_
            refine T_region ?_
            refine TL_pure rfl rfl rfl rfl (op_load_agg ag26 sz26 rfl rfl rfl) ?_
            refine TL_pure rfl rfl rfl rfl (op_move rfl) ?_
            obtain ⟨r76, hr76, hm⟩ := bindS hm
            refine TL_callF (ACall.F (F := F) (c_impl_RunPolicy r35.1 r43.1 r76 hr76)) Tryd.call12 rfl rfl rfl rfl rfl ?_
            refine TL_pure rfl rfl rfl rfl (op_move rfl) ?_
            refine TL_pure rfl rfl rfl rfl (op_extract rfl rfl) ?_
            refine TL_pure rfl rfl rfl rfl (op_extract rfl rfl) ?_
            refine TL_pure rfl rfl rfl rfl (op_extract rfl rfl) ?_
            refine TL_pure rfl rfl rfl rfl (op_assign rfl) ?_
            refine TL_pure rfl rfl rfl rfl (op_assign rfl) ?_
            refine TL_pure rfl rfl rfl rfl (op_assign rfl) ?_
            refine TL_nil ?_
            refine T_seq ?_
            refine T_region ?_
            refine TL_pure rfl rfl rfl rfl (op_load_agg ag26 sz26 rfl rfl rfl) ?_
            refine TL_pure rfl rfl rfl rfl (op_move rfl) ?_
            obtain ⟨r83, hr83, hm⟩ := bindS hm
            refine TL_callF (ACall.F (F := F) (c_impl_RunPolicy r35.2 r43.1 r83 hr83)) Tryd.call12 rfl rfl rfl rfl rfl ?_
            refine TL_pure rfl rfl rfl rfl (op_move rfl) ?_
            refine TL_pure rfl rfl rfl rfl (op_extract rfl rfl) ?_
            refine TL_pure rfl rfl rfl rfl (op_extract rfl rfl) ?_
            refine TL_pure rfl rfl rfl rfl (op_extract rfl rfl) ?_
            refine TL_pure rfl rfl rfl rfl (op_assign rfl) ?_
            refine TL_pure rfl rfl rfl rfl (op_assign rfl) ?_
            refine TL_pure rfl rfl rfl rfl (op_assign rfl) ?_
            refine TL_nil ?_
            refine T_seq ?_
            refine T_region ?_
            refine TL_pure rfl rfl rfl rfl (op_move rfl) ?_
            refine TL_pure rfl rfl rfl rfl (op_not rfl) ?_
            refine TL_pure rfl rfl rfl rfl (op_move rfl) ?_
            refine TL_join 3 (fun _ : Unit => ⟨[(5, .ptr 11 0 0), (6, .ptr 12 0 0), (7, .ow 13), (8, .ow 14), (10, .int .i64 r49.1), (13, .int .i64 r56.1), (16, .ptr 16 0 0), (17, .bool r63.2), (18, .int .i64 r76.1), (21, .int .i64 r83.1), (92, .bool ((!r76.2.2) || (!r83.2.2)))], [(11, .box [.sl 1 (List.map aLa_i64 r35.1.Next)]), (12, .box [.sl 1 (List.map aLa_i64 r35.2.Next)]), (13, .arr ⟨false, true⟩ 1 2 (List.map a_i64 r39)), (14, .arr ⟨false, true⟩ 1 2 (List.map a_i64 r43.1)), (15, .arr ⟨false, true⟩ 1 29 (List.map aLa_i64 r63.1.Next)), (16, .box [.ow 15])]⟩) (fun _ => True) (fun _ _ => ?_) (fun hjj => ?_)
            · refine TL_pure rfl rfl rfl rfl (op_move rfl) ?_
              refine TL_join 10 (fun _ : Unit => ⟨[(5, .ptr 11 0 0), (6, .ptr 12 0 0), (7, .ow 13), (10, .int .i64 r49.1), (13, .int .i64 r56.1), (16, .ptr 16 0 0), (17, .bool r63.2), (103, .bool (((!r76.2.2) || (!r83.2.2)) || ((decide (r76.1 = (r43.1.length : Int))) == (decide (r83.1 = (r43.1.length : Int))))))], [(11, .box [.sl 1 (List.map aLa_i64 r35.1.Next)]), (12, .box [.sl 1 (List.map aLa_i64 r35.2.Next)]), (13, .arr ⟨false, true⟩ 1 2 (List.map a_i64 r39)), (15, .arr ⟨false, true⟩ 1 29 (List.map aLa_i64 r63.1.Next)), (16, .box [.ow 15])]⟩) (fun _ => True) (fun _ _ => ?_) (fun hjj => ?_)
              · refine TL_pure rfl rfl rfl rfl (op_move rfl) ?_
                refine TL_split 104 rfl rfl rfl (fun hq => ?_) (fun hq => ?_)
                · replace hm := condT hq hm
                  refine TL_pass rfl rfl rfl rfl rfl rfl rfl ?_
                  refine TL_pass rfl rfl rfl rfl rfl rfl rfl ?_
                  refine TL_pass rfl rfl rfl rfl rfl rfl rfl ?_
                  refine TL_pass rfl rfl rfl rfl rfl rfl rfl ?_
                  refine TL_pass2 rfl rfl rfl rfl rfl rfl ?_
                  refine TL_pass2 rfl rfl rfl rfl rfl rfl ?_
                  refine TL_pass2 rfl rfl rfl rfl rfl rfl ?_
                  refine TL_pass rfl rfl rfl rfl rfl rfl rfl ?_
                  refine TL_pure rfl rfl rfl rfl (op_pick_true rfl rfl) ?_
                  refine TL_nil ?_
                  refine T_cond_true rfl ?_
                  refine T_seq ?_
                  refine T_region ?_
                  refine TL_pure rfl rfl rfl rfl (op_assign rfl) ?_
                  refine TL_nil ?_
                  refine T_keepH [4] [] rfl rfl rfl rfl (by rw [hF]; rfl) ?_
                  refine T_ret ?_
                  obtain rfl := someI hm
                  refine ⟨[_], [], ⟨rfl, trivial⟩, ?_, rfl, rfl, rfl, rfl⟩
                  rfl
                · replace hm := condF hq hm
                  refine TL_want rfl rfl ?_
                  refine TL_pure rfl rfl rfl rfl (op_load_agg ag26 sz26 rfl rfl rfl) ?_
                  refine TL_want rfl rfl ?_
                  refine TL_pure rfl rfl rfl rfl (op_load_agg ag26 sz26 rfl rfl rfl) ?_
                  refine TL_want rfl rfl ?_
                  obtain ⟨r107, hr107, hm⟩ := bindS hm
                  refine TL_callF (ACall.F (F := F) (c_impl_IsStricter r35.1 r35.2 r107 hr107)) Tryd.call14 rfl rfl rfl rfl rfl ?_
                  refine TL_want rfl rfl ?_
                  refine TL_pure rfl rfl rfl rfl (op_move rfl) ?_
                  refine TL_split 108 rfl rfl rfl (fun hq => ?_) (fun hq => ?_)
                  · replace hm := condT hq hm
                    refine TL_want rfl rfl ?_
                    refine TL_pure rfl rfl rfl rfl (op_load_agg ag26 sz26 rfl rfl rfl) ?_
                    refine TL_want rfl rfl ?_
                    refine TL_pure rfl rfl rfl rfl (op_load_agg ag26 sz26 rfl rfl rfl) ?_
                    refine TL_want rfl rfl ?_
                    obtain ⟨r111, hr111, hm⟩ := bindS hm
                    refine TL_callF (ACall.F (F := F) (c_impl_IsStricter r35.2 r35.1 r111 hr111)) Tryd.call14 rfl rfl rfl rfl rfl ?_
                    refine TL_want rfl rfl ?_
                    refine TL_pure rfl rfl rfl rfl (op_pick_true rfl rfl) ?_
                    refine TL_pure rfl rfl rfl rfl (op_pick_false rfl rfl) ?_
                    refine TL_nil ?_
                    refine T_cond rfl (fun hq => ?_) (fun hq => ?_)
                    · replace hm := condT hq hm
                      refine T_seq ?_
                      refine T_region ?_
                      refine TL_pure rfl rfl rfl rfl (op_assign rfl) ?_
                      refine TL_nil ?_
                      refine T_keepH [4] [] rfl rfl rfl rfl (by rw [hF]; rfl) ?_
                      refine T_ret ?_
                      obtain rfl := someI hm
                      refine ⟨[_], [], ⟨rfl, trivial⟩, ?_, rfl, rfl, rfl, rfl⟩
                      rfl
                    · replace hm := condF hq hm
                      refine T_skip ?_
                      refine T_keepH [5, 6, 7, 10, 13, 16, 17] [11, 12, 13, 15, 16] rfl rfl rfl rfl (by rw [hF]; rfl) ?_
                      exact hj0 () hm
                  · replace hm := condF hq hm
                    refine TL_pass rfl rfl rfl rfl rfl rfl rfl ?_
                    refine TL_pass rfl rfl rfl rfl rfl rfl rfl ?_
                    refine TL_pass rfl rfl rfl rfl rfl rfl rfl ?_
                    refine TL_want rfl rfl ?_
                    refine TL_pure rfl rfl rfl rfl (op_pick_false rfl rfl) ?_
                    refine TL_pure rfl rfl rfl rfl (op_pick_false rfl rfl) ?_
                    refine TL_nil ?_
                    refine T_cond_false rfl ?_
                    refine T_skip ?_
                    refine T_keepH [5, 6, 7, 10, 13, 16, 17] [11, 12, 13, 15, 16] rfl rfl rfl rfl (by rw [hF]; rfl) ?_
                    exact hj0 () hm
              · refine TL_split 93 rfl rfl rfl (fun hq => ?_) (fun hq => ?_)
                · refine TL_pass rfl rfl rfl rfl rfl rfl rfl ?_
                  refine TL_pass rfl rfl rfl rfl rfl rfl rfl ?_
                  refine TL_pass rfl rfl rfl rfl rfl rfl rfl ?_
                  refine TL_pass rfl rfl rfl rfl rfl rfl rfl ?_
                  refine TL_pass rfl rfl rfl rfl rfl rfl rfl ?_
                  refine TL_pass rfl rfl rfl rfl rfl rfl rfl ?_
                  refine TL_pass rfl rfl rfl rfl rfl rfl rfl ?_
                  refine TL_pass rfl rfl rfl rfl rfl rfl rfl ?_
                  refine TL_pass rfl rfl rfl rfl rfl rfl rfl ?_
                  refine TL_pure rfl rfl rfl rfl (op_pick_true rfl rfl) ?_
                  refine TL_keepH [5, 6, 7, 10, 13, 16, 17, 103] [11, 12, 13, 15, 16] rfl rfl rfl rfl (by rw [hF]; rfl) ?_
                  exact TL_cast _ (by first | (rw [hq, Bool.true_or]; done) | (rw [hq]; rfl)) (hjj () trivial)
                · refine TL_want rfl rfl ?_
                  refine TL_pure rfl rfl rfl rfl (op_move rfl) ?_
                  refine TL_want rfl rfl ?_
                  refine TL_pure rfl rfl rfl rfl (op_move rfl) ?_
                  refine TL_want rfl rfl ?_
                  refine TL_pure rfl rfl rfl rfl (op_lenO Tryd.underlying29 rfl rfl (List.length_map _)) ?_
                  refine TL_fact (fun _ _ _ hr => RelP.owLen (id := 14) rfl hr) (fun hlen96 => ?_)
                  rw [List.length_map] at hlen96
                  refine TL_want rfl rfl ?_
                  refine TL_pure rfl rfl rfl rfl (op_eql rfl rfl) ?_
                  refine TL_want rfl rfl ?_
                  refine TL_pure rfl rfl rfl rfl (op_move rfl) ?_
                  refine TL_want rfl rfl ?_
                  refine TL_pure rfl rfl rfl rfl (op_move rfl) ?_
                  refine TL_want rfl rfl ?_
                  refine TL_pure rfl rfl rfl rfl (op_lenO Tryd.underlying29 rfl rfl (List.length_map _)) ?_
                  refine TL_want rfl rfl ?_
                  refine TL_pure rfl rfl rfl rfl (op_eql rfl rfl) ?_
                  refine TL_want rfl rfl ?_
                  refine TL_pure rfl rfl rfl rfl (op_eqlB Tryd.underlying4 rfl rfl) ?_
                  refine TL_pure rfl rfl rfl rfl (op_pick_false rfl rfl) ?_
                  refine TL_keepH [5, 6, 7, 10, 13, 16, 17, 103] [11, 12, 13, 15, 16] rfl rfl rfl rfl (by rw [hF]; rfl) ?_
                  exact TL_cast _ (by first | (rw [hq, Bool.false_or]; done) | (rw [hq]; rfl)) (hjj () trivial)
            · refine TL_split 89 rfl rfl rfl (fun hq => ?_) (fun hq => ?_)
              · refine TL_pass rfl rfl rfl rfl rfl rfl rfl ?_
                refine TL_pass rfl rfl rfl rfl rfl rfl rfl ?_
                refine TL_pure rfl rfl rfl rfl (op_pick_true rfl rfl) ?_
                refine TL_keepH [5, 6, 7, 8, 10, 13, 16, 17, 18, 21, 92] [11, 12, 13, 14, 15, 16] rfl rfl rfl rfl (by rw [hF]; rfl) ?_
                exact TL_cast _ (by first | (rw [hq, Bool.true_or]; done) | (rw [hq]; rfl)) (hjj () trivial)
              · refine TL_want rfl rfl ?_
                refine TL_pure rfl rfl rfl rfl (op_move rfl) ?_
                refine TL_want rfl rfl ?_
                refine TL_pure rfl rfl rfl rfl (op_not rfl) ?_
                refine TL_pure rfl rfl rfl rfl (op_pick_false rfl rfl) ?_
                refine TL_keepH [5, 6, 7, 8, 10, 13, 16, 17, 18, 21, 92] [11, 12, 13, 14, 15, 16] rfl rfl rfl rfl (by rw [hF]; rfl) ?_
                exact TL_cast _ (by first | (rw [hq, Bool.false_or]; done) | (rw [hq]; rfl)) (hjj () trivial)
          · replace hm := condF hq hm
            refine T_seq ?_
            refine T_region ?_
            refine TL_pure rfl rfl rfl rfl (op_move rfl) ?_
            refine TL_pure rfl rfl rfl rfl (op_move rfl) ?_
            refine TL_pure rfl rfl rfl rfl (op_neq rfl rfl) ?_
            refine TL_nil ?_
            refine T_cond rfl (fun hq => ?_) (fun hq => ?_)
            · replace hm := condT hq hm
              refine T_seq ?_
              refine T_region ?_
              refine TL_pure rfl rfl rfl rfl (op_assign rfl) ?_
              refine TL_nil ?_
              refine T_keepH [4] [] rfl rfl rfl rfl (by rw [hF]; rfl) ?_
              refine T_ret ?_
              obtain rfl := someI hm
              refine ⟨[_], [], ⟨rfl, trivial⟩, ?_, rfl, rfl, rfl, rfl⟩
              rfl
            · replace hm := condF hq hm
              refine T_skip ?_
              refine T_keepH [5, 6, 7, 10, 13, 16, 17] [11, 12, 13, 15, 16] rfl rfl rfl rfl (by rw [hF]; rfl) ?_
              exact hj0 () hm
    · refine TL_split 68 rfl rfl rfl (fun hq => ?_) (fun hq => ?_)
      · refine TL_pass rfl rfl rfl rfl rfl rfl rfl ?_
        refine TL_pass rfl rfl rfl rfl rfl rfl rfl ?_
        refine TL_pure rfl rfl rfl rfl (op_pick_true rfl rfl) ?_
        refine TL_keepH [5, 6, 7, 8, 9, 10, 13, 16, 17, 71] [11, 12, 13, 14, 15, 16] rfl rfl rfl rfl (by rw [hF]; rfl) ?_
        exact TL_cast _ (by first | (rw [hq, Bool.true_or]; done) | (rw [hq]; rfl)) (hjj () trivial)
      · refine TL_want rfl rfl ?_
        refine TL_pure rfl rfl rfl rfl (op_move rfl) ?_
        refine TL_want rfl rfl ?_
        refine TL_pure rfl rfl rfl rfl (op_not rfl) ?_
        refine TL_pure rfl rfl rfl rfl (op_pick_false rfl rfl) ?_
        refine TL_keepH [5, 6, 7, 8, 9, 10, 13, 16, 17, 71] [11, 12, 13, 14, 15, 16] rfl rfl rfl rfl (by rw [hF]; rfl) ?_
        exact TL_cast _ (by first | (rw [hq, Bool.false_or]; done) | (rw [hq]; rfl)) (hjj () trivial)
end Go.Mod
