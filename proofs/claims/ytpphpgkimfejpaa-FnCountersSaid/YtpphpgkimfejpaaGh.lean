import Derived.Test.YtpphpgkimfejpaaGg
namespace Go.Mod
open Go Go.AM Go.Proofs
set_option linter.unusedVariables false
set_option linter.unusedSimpArgs false
set_option maxRecDepth 100000
set_option maxHeartbeats 8000000
theorem c_impl_proving_work_F (rec_impl_proving_work : proving → (List Term) → Option proving) (hrec_impl_proving_work : ∀ (p0 : proving) (p1 : List Term) (out : proving), rec_impl_proving_work p0 p1 = some out → ACall Try.prog 90 [.ptr 0 0 0, .sl 2 (List.map a_Term p1)] [(0, .box [.int .i64 p0.budget, .ow 1, .bool p0.failed]), (1, .arr ⟨false, false⟩ 5 140 (List.map a_Node p0.nodes))] (.tup []) [(0, .box [.int .i64 out.budget, .ow 1, .bool out.failed]), (1, .arr ⟨false, false⟩ 5 140 (List.map a_Node out.nodes))]) (p0 : proving) (p1 : List Term) (out : proving) (hm : m_impl_proving_work_F rec_impl_proving_work p0 p1 = some out) : ACall Try.prog 90 [.ptr 0 0 0, .sl 2 (List.map a_Term p1)] [(0, .box [.int .i64 p0.budget, .ow 1, .bool p0.failed]), (1, .arr ⟨false, false⟩ 5 140 (List.map a_Node p0.nodes))] (.tup []) [(0, .box [.int .i64 out.budget, .ow 1, .bool out.failed]), (1, .arr ⟨false, false⟩ 5 140 (List.map a_Node out.nodes))] := by
  refine ACall.intro Try.func90 rfl Try.ntmps90 rfl (fun F hF => ?_)
  unfold m_impl_proving_work_F at hm
  refine T_block ?_
  refine T_keepH [0, 1] [0, 1] rfl rfl rfl rfl (by rw [hF]; rfl) ?_
  refine T_loop ?_
  obtain ⟨u0, hl0, hm⟩ := bindS hm
  refine TR_iter2 (m_impl_proving_work_F_L0 rec_impl_proving_work) (fun (s0 : Int × (List Node) × Bool × (List Term)) => ⟨[(0, .ptr 0 0 0), (1, .sl 2 (List.map a_Term s0.2.2.2))], [(0, .box [.int .i64 s0.1, .ow 1, .bool s0.2.2.1]), (1, .arr ⟨false, false⟩ 5 140 (List.map a_Node s0.2.1))]⟩) (fun u0 => match u0 with | .inl u0 => .exit 0 | .inr u0 => .ret) (fun u0 => match u0 with | .inl u0 => ⟨[], [(0, .box [.int .i64 u0.1, .ow 1, .bool u0.2.2]), (1, .arr ⟨false, false⟩ 5 140 (List.map a_Node u0.2.1))]⟩ | .inr u0 => ⟨[], [(0, .box [.int .i64 u0.1, .ow 1, .bool u0.2.2]), (1, .arr ⟨false, false⟩ 5 140 (List.map a_Node u0.2.1))]⟩) (fun u0 => m_impl_proving_work_F_A0 u0 = some out) hl0 hm (fun u0 hm => ?_) (fun hx0 s0 c0 hm hc0 => ?_)
  · rcases u0 with u0 | u0
    · unfold m_impl_proving_work_F_A0 at hm
      obtain rfl := someI hm
      refine ⟨[], [0, 1], trivial, ?_, rfl, rfl, rfl, rfl⟩
      rfl
    · unfold m_impl_proving_work_F_A0 at hm
      obtain rfl := someI hm
      refine ⟨[], [0, 1], trivial, ?_, rfl, rfl, rfl, rfl⟩
      rfl
  · unfold m_impl_proving_work_F_L0 at hm
    refine T_seq ?_
    refine T_seq ?_
    refine T_region ?_
    refine TL_pure rfl rfl rfl rfl (op_move rfl) ?_
    refine TL_pure rfl rfl rfl rfl (op_nilCheck rfl rfl) ?_
    refine TL_pure rfl rfl rfl rfl (op_fieldAddr fa115_2 rfl rfl) ?_
    refine TL_pure rfl rfl rfl rfl (op_load_one ag4 rfl rfl) ?_
    refine TL_pure rfl rfl rfl rfl (op_not rfl) ?_
    refine TL_nil ?_
    refine T_cond rfl (fun hq => ?_) (fun hq => ?_)
    · replace hm := condT hq hm
      refine T_skip ?_
      refine T_block ?_
      refine T_seq ?_
      refine T_region ?_
      refine TL_pure rfl rfl rfl rfl (op_assign rfl) ?_
      refine TL_nil ?_
      refine T_seq ?_
      refine T_seq ?_
      refine T_region ?_
      refine TL_pure rfl rfl rfl rfl (op_move rfl) ?_
      refine TL_pure rfl rfl rfl rfl (op_lenT Try.underlying24 rfl (List.length_map _)) ?_
      refine TL_fact (fun _ _ _ hr => RelP.slLen (i := 19) rfl hr) (fun hlen20 => ?_)
      rw [List.length_map] at hlen20
      refine TL_pure rfl rfl rfl rfl (op_move rfl) ?_
      refine TL_nil ?_
      refine T_block ?_
      refine T_keepH [0, 1, 4, 19, 20, 21] [0, 1] rfl rfl rfl rfl (by rw [hF]; rfl) ?_
      refine T_loop ?_
      obtain ⟨u1, hl1, hm⟩ := bindS hm
      refine TR_forL2 s0.2.2.2 (m_impl_proving_work_F_L1 s0) (fun (s1 : Unit) => (s0.1, s0.2.1, s0.2.2.1, s0.2.2.2, false)) (fun n1 (s1 : Unit) => ⟨[(0, .ptr 0 0 0), (1, .sl 2 (List.map a_Term s0.2.2.2)), (4, .bool false), (19, .sl 2 (List.map a_Term s0.2.2.2)), (20, .int .i64 (s0.2.2.2.length : Int)), (21, .int .i64 (n1 : Int))], [(0, .box [.int .i64 s0.1, .ow 1, .bool s0.2.2.1]), (1, .arr ⟨false, false⟩ 5 140 (List.map a_Node s0.2.1))]⟩) (fun u1 => .exit 2) (fun u1 => ⟨[(0, .ptr 0 0 0), (1, .sl 2 (List.map a_Term u1.2.2.2.1)), (4, .bool u1.2.2.2.2)], [(0, .box [.int .i64 u1.1, .ow 1, .bool u1.2.2.1]), (1, .arr ⟨false, false⟩ 5 140 (List.map a_Node u1.2.1))]⟩) (fun u1 => m_impl_proving_work_F_A1 rec_impl_proving_work u1 = some c0) hl1 hm (fun u1 hm => ?_) (fun hx1 s1 hm => ?_) (fun hx1 n1 x1 s1 c1 hxn1 hlt1 hm hc1 => ?_)
      · unfold m_impl_proving_work_F_A1 at hm
        refine T_seq ?_
        refine T_seq ?_
        refine T_region ?_
        refine TL_pure rfl rfl rfl rfl (op_move rfl) ?_
        refine TL_nil ?_
        refine T_cond rfl (fun hq => ?_) (fun hq => ?_)
        · replace hm := condT hq hm
          refine T_exit ?_
          refine TR_keepH [0, 1] [0, 1] rfl rfl rfl rfl (by rw [hF]; rfl) ?_
          obtain rfl := someI hm
          have hn := CtlOK_next hc0
          exact hn _ rfl
        · replace hm := condF hq hm
          refine T_skip ?_
          refine T_seq ?_
          refine T_seq ?_
          refine T_region ?_
          refine TL_pure rfl rfl rfl rfl (op_move rfl) ?_
          obtain ⟨r45, hr45, hm⟩ := bindS hm
          refine TL_callO [(1000, 1967)] (ACall.F (F := F) (c_impl_RefuteFacts u1.2.2.2.1 r45 hr45)) Try.call12 rfl rfl rfl rfl rfl rfl rfl rfl rfl rfl rfl rfl rfl ?_
          refine TL_pure rfl rfl rfl rfl (op_move rfl) ?_
          refine TL_pure rfl rfl rfl rfl (op_extract rfl rfl) ?_
          refine TL_pure rfl rfl rfl rfl (op_extract rfl rfl) ?_
          refine TL_pure rfl rfl rfl rfl (op_assign rfl) ?_
          refine TL_pure rfl rfl rfl rfl (op_assign rfl) ?_
          refine TL_nil ?_
          refine T_seq ?_
          refine T_region ?_
          refine TL_pure rfl rfl rfl rfl (op_move rfl) ?_
          refine TL_nil ?_
          refine T_cond rfl (fun hq => ?_) (fun hq => ?_)
          · replace hm := condT hq hm
            refine T_seq ?_
            refine T_region ?_
            refine TL_pure rfl rfl rfl rfl (op_move rfl) ?_
            refine TL_pure rfl rfl rfl rfl (op_move rfl) ?_
            refine TL_pure rfl rfl rfl rfl (op_buildP pl140 z140 rfl rfl rfl rfl rfl) ?_
            refine TL_freeze 1967 (by rw [hF]; rfl) rfl rfl rfl ?_
            obtain ⟨r52, hr52, hm⟩ := bindS hm
            refine TL_call [(0, 0), (1, 1)] [] [1] (ACallF.nil (ys := [.ptr 0 0 0, .agg [.int .i64 (1 : Int), .int .i64 (0 : Int), .int .i64 (0 : Int), .snil, .sl 1 (List.map a_i64 r45.1)]]) (xs := [.ptr 0 0 0, .agg [.int .i64 (1 : Int), .int .i64 (0 : Int), .int .i64 (0 : Int), .sl 1 (List.map a_i64 ([] : List Int)), .sl 1 (List.map a_i64 r45.1)]]) (ACall.F (F := F) (c_impl_proving_write (proving.mk u1.1 u1.2.1 u1.2.2.1) (Node.mk (1 : Int) (0 : Int) (Term.mk (0 : Int) ([] : List Int)) r45.1) r52 hr52)) (⟨_, _, rfl, NilR_refl _, ⟨_, _, rfl, ⟨_, rfl, ⟨_, _, rfl, rfl, ⟨_, _, rfl, rfl, ⟨_, _, rfl, rfl, ⟨_, _, rfl, .inr ⟨_, rfl⟩, ⟨_, _, rfl, rfl, rfl⟩⟩⟩⟩⟩⟩, rfl⟩⟩)) Try.call113 rfl rfl rfl rfl rfl ⟨rfl, rfl, trivial⟩ rfl rfl rfl rfl rfl rfl rfl rfl rfl rfl rfl ?_
            refine TL_nil ?_
            refine T_keepH [] [0, 1] rfl rfl rfl rfl (by rw [hF]; rfl) ?_
            refine T_ret ?_
            obtain rfl := someI hm
            have hn := CtlOK_out hc0
            exact hx0 (.inr (r52.budget, r52.nodes, r52.failed)) hn
          · replace hm := condF hq hm
            refine T_skip ?_
            refine T_seq ?_
            refine T_region ?_
            refine TL_pure rfl rfl rfl rfl (op_move rfl) ?_
            obtain ⟨r55, hr55, hm⟩ := bindS hm
            refine TLE_call [] [(1000, 1968)] [] (ACall.F (F := F) (c_impl_firstCut u1.2.2.2.1 r55 hr55)) (fun _ => rfl) Try.call66 rfl rfl rfl rfl rfl trivial rfl rfl rfl rfl rfl rfl rfl rfl rfl rfl rfl ?_
            refine TL_pure rfl rfl rfl rfl (op_move rfl) ?_
            refine TL_pure rfl rfl rfl rfl (op_extract rfl rfl) ?_
            refine TL_pure rfl rfl rfl rfl (op_extract rfl rfl) ?_
            refine TL_pure rfl rfl rfl rfl (op_extract rfl rfl) ?_
            refine TL_alloc 1969 z41 rfl rfl rfl rfl rfl rfl rfl ?_
            refine TL_alloc 1970 z77 rfl rfl rfl rfl rfl rfl rfl ?_
            refine TL_store_box sz41 rfl rfl rfl rfl rfl rfl rfl rfl rfl ?_
            refine TL_store_box sz77 rfl rfl rfl rfl rfl rfl rfl rfl rfl ?_
            refine TL_pure rfl rfl rfl rfl (op_assign rfl) ?_
            refine TL_nil ?_
            refine T_seq ?_
            refine T_join (fun (j0 : Bool) => ⟨[(0, .ptr 0 0 0), (1, .sl 2 (List.map a_Term u1.2.2.2.1)), (11, .ptr 1969 0 0), (12, .ptr 1970 0 0), (66, .bool j0)], [(0, .box [.int .i64 u1.1, .ow 1, .bool u1.2.2.1]), (1, .arr ⟨false, false⟩ 5 140 (List.map a_Node u1.2.1)), (1968, .arr ⟨false, true⟩ 1 2 (List.map a_i64 r55.1.Coeffs)), (1969, .box [.int .i64 r55.1.Const, .ow 1968]), (1970, .box [.int .i64 r55.2.1.term.Const, .sl 1 (List.map a_i64 r55.2.1.term.Coeffs), .sl 1 (List.map a_i64 r55.2.1.by_)])]⟩) (fun j0 => m_impl_proving_work_F_J0 rec_impl_proving_work u1 r55 j0 = some c0) (fun j0 hm => ?_) (fun hj0 => ?_)
            · unfold m_impl_proving_work_F_J0 at hm
              refine T_cond rfl (fun hq => ?_) (fun hq => ?_)
              · replace hm := condT hq hm
                refine T_seq ?_
                refine T_region ?_
                refine TL_pure rfl rfl rfl rfl (op_move rfl) ?_
                refine TL_pure rfl rfl rfl rfl (op_nilCheck rfl rfl) ?_
                refine TL_pure rfl rfl rfl rfl (op_fieldAddr fa115_2 rfl rfl) ?_
                refine TL_store_box sz4 rfl rfl rfl rfl rfl rfl rfl rfl rfl ?_
                refine TL_nil ?_
                refine T_keepH [] [0, 1] rfl rfl rfl rfl (by rw [hF]; rfl) ?_
                refine T_ret ?_
                obtain rfl := someI hm
                have hn := CtlOK_out hc0
                exact hx0 (.inr (u1.1, u1.2.1, true)) hn
              · replace hm := condF hq hm
                refine T_skip ?_
                refine T_seq ?_
                refine T_region ?_
                refine TL_pure rfl rfl rfl rfl (op_move rfl) ?_
                refine TL_pure rfl rfl rfl rfl (op_load_agg ag41 sz41 rfl rfl rfl) ?_
                obtain ⟨r72, hr72, hm⟩ := bindS hm
                refine TL_callO [(1000, 1974)] (ACall.F (F := F) (c_impl_Term_own r55.1 r72 hr72)) Try.call63 rfl rfl rfl rfl rfl rfl rfl rfl rfl rfl rfl rfl rfl ?_
                refine TL_pure rfl rfl rfl rfl (op_buildP pl140 z140 rfl rfl rfl rfl rfl) ?_
                refine TL_freeze 1974 (by rw [hF]; rfl) rfl rfl rfl ?_
                obtain ⟨r74, hr74, hm⟩ := bindS hm
                refine TL_call [(0, 0), (1, 1)] [] [1] (ACallF.nil (ys := [.ptr 0 0 0, .agg [.int .i64 (2 : Int), .int .i64 (0 : Int), .int .i64 r72.Const, .sl 1 (List.map a_i64 r72.Coeffs), .snil]]) (xs := [.ptr 0 0 0, .agg [.int .i64 (2 : Int), .int .i64 (0 : Int), .int .i64 r72.Const, .sl 1 (List.map a_i64 r72.Coeffs), .sl 1 (List.map a_i64 ([] : List Int))]]) (ACall.F (F := F) (c_impl_proving_write (proving.mk u1.1 u1.2.1 u1.2.2.1) (Node.mk (2 : Int) (0 : Int) r72 ([] : List Int)) r74 hr74)) (⟨_, _, rfl, NilR_refl _, ⟨_, _, rfl, ⟨_, rfl, ⟨_, _, rfl, rfl, ⟨_, _, rfl, rfl, ⟨_, _, rfl, rfl, ⟨_, _, rfl, rfl, ⟨_, _, rfl, .inr ⟨_, rfl⟩, rfl⟩⟩⟩⟩⟩⟩, rfl⟩⟩)) Try.call113 rfl rfl rfl rfl rfl ⟨rfl, rfl, trivial⟩ rfl rfl rfl rfl rfl rfl rfl rfl rfl rfl rfl ?_
                refine TL_nil ?_
                refine T_seq ?_
                refine T_region ?_
                refine TL_pure rfl rfl rfl rfl (op_move rfl) ?_
                refine TL_pure rfl rfl rfl rfl (op_move rfl) ?_
                refine TL_pure rfl rfl rfl rfl (op_move rfl) ?_
                refine TL_pure rfl rfl rfl rfl (op_load_agg ag41 sz41 rfl rfl rfl) ?_
                refine TL_freeze 1968 (by rw [hF]; rfl) rfl rfl rfl ?_
                obtain ⟨r79, hr79, hm⟩ := bindS hm
                refine TL_call [(0, 0), (1, 1)] [] [1] (ACall.F (F := F) (c_impl_proving_add r74 u1.2.2.2.1 r55.1 r79 hr79)) Try.call114 rfl rfl rfl rfl rfl ⟨rfl, rfl, trivial⟩ rfl rfl rfl rfl rfl rfl rfl rfl rfl rfl rfl ?_
                obtain ⟨r80, hr80, hm⟩ := bindS hm
                refine TL_call [(0, 0), (1, 1)] [] [1] (ACall.F (F := F) (hrec_impl_proving_work r79.2 r79.1 r80 hr80)) Try.call90 rfl rfl rfl rfl rfl ⟨rfl, rfl, trivial⟩ rfl rfl rfl rfl rfl rfl rfl rfl rfl rfl rfl ?_
                refine TL_nil ?_
                refine T_seq ?_
                refine T_drawZ [8, 9, 11] mix (by kernel_rfl) rfl ?_
                obtain ⟨r84, hr84, hm⟩ := bindS hm
                obtain ⟨r88, hr88, hm⟩ := bindS hm
                obtain ⟨q90, hq90, hm⟩ := bindS hm
                obtain ⟨r92, hr92, hm⟩ := bindS hm
                refine TZ_pure 0 (by kernel_rfl) rfl rfl rfl rfl rfl (op_move rfl) ?_
                refine TZ_pure 1 (by kernel_rfl) rfl rfl rfl rfl rfl (op_fieldAddr fa77_1 rfl rfl) ?_
                refine TZ_pure 4 (by kernel_rfl) rfl rfl rfl rfl rfl (op_fieldAddr fa77_0 rfl rfl) ?_
                refine TZ_pure 5 (by kernel_rfl) rfl rfl rfl rfl rfl (op_fieldAddr fa41_1 rfl rfl) ?_
                refine TZ_cut 6 [true, true, true, true, true, true, false, false, false, false, false, false] ⟨[(0, .ptr 0 0 0), (1, .sl 2 (List.map a_Term u1.2.2.2.1)), (11, .ptr 1969 0 0), (12, .ptr 1970 0 0), (66, .bool j0), (70, .ptr 0 0 0), (71, .agg [.int .i64 r55.1.Const, .sl 1 (List.map a_i64 r55.1.Coeffs)]), (72, .agg [.int .i64 r72.Const, .sl 1 (List.map a_i64 r72.Coeffs)]), (73, .agg [.int .i64 (2 : Int), .int .i64 (0 : Int), .int .i64 r72.Const, .sl 1 (List.map a_i64 r72.Coeffs), .snil]), (74, .tup []), (75, .ptr 0 0 0), (76, .ptr 0 0 0), (77, .sl 2 (List.map a_Term u1.2.2.2.1)), (78, .agg [.int .i64 r55.1.Const, .sl 1 (List.map a_i64 r55.1.Coeffs)]), (79, .sl 2 (List.map a_Term r79.1)), (80, .tup []), (81, .ptr 0 0 0), (82, .ptr 1970 0 2), (83, .sl 1 (List.map a_i64 r55.2.1.by_)), (84, .ow 2295), (85, .ptr 1970 0 0), (86, .ptr 1970 0 1)], [(0, .box [.int .i64 r80.budget, .ow 1, .bool r80.failed]), (1, .arr ⟨false, false⟩ 5 140 (List.map a_Node r80.nodes)), (1969, .box [.int .i64 r55.1.Const, .sl 1 (List.map a_i64 r55.1.Coeffs)]), (1970, .box [.int .i64 r55.2.1.term.Const, .sl 1 (List.map a_i64 r55.2.1.term.Coeffs), .sl 1 (List.map a_i64 r55.2.1.by_)]), (2295, .arr ⟨false, true⟩ 1 2 (List.map a_i64 r84))]⟩ ?_ (fun hS1974_0 => ?_)
                · refine TZ_one 6 (by kernel_rfl) rfl ?_
                  refine TL_pure rfl rfl rfl rfl (op_load_one ag26 rfl rfl) ?_
                  refine TL_nil ?_
                  refine TZ_one 7 (by kernel_rfl) rfl ?_
                  refine TL_callF (ACall.F (F := F) (c_impl_gcd r55.2.1.term.Coeffs r88 hr88)) Try.call115 rfl rfl rfl rfl rfl ?_
                  refine TL_nil ?_
                  refine TZ_one 8 (by kernel_rfl) rfl ?_
                  refine TL_buildSlice 2695 (es := List.map a_i64 [r88]) el26 z2 rfl rfl rfl rfl rfl rfl rfl rfl rfl ?_
                  refine TL_nil ?_
                  refine TZ_one 9 (by kernel_rfl) rfl ?_
                  refine TL_undeep 2295 (p' := false) (by rw [hF]; rfl) rfl (ElR.map (f := a_i64) (g := a_i64) (fun _ => ⟨⟨rfl, rfl⟩, trivial⟩) r84) rfl ?_
                  refine TL_appendT (f := a_i64) (a := r84) (b := [r88]) el26 z2 rfl rfl rfl rfl rfl rfl rfl (capI_spec hq90) rfl rfl rfl rfl rfl ?_
                  refine TL_nil ?_
                  refine TZ_pure 10 (by kernel_rfl) rfl rfl rfl rfl rfl (op_buildP pl140 z140 rfl rfl rfl rfl rfl) ?_
                  refine TZ_one 11 (by kernel_rfl) rfl ?_
                  refine TL_freeze 2295 (by rw [hF]; rfl) rfl rfl rfl ?_
                  refine TL_call [(0, 0), (1, 1)] [] [1] (ACallF.nil (ys := [.ptr 0 0 0, .agg [.int .i64 (1 : Int), .int .i64 (0 : Int), .int .i64 (0 : Int), .snil, .sl 1 (List.map a_i64 (r84 ++ [r88]))]]) (xs := [.ptr 0 0 0, .agg [.int .i64 (1 : Int), .int .i64 (0 : Int), .int .i64 (0 : Int), .sl 1 (List.map a_i64 ([] : List Int)), .sl 1 (List.map a_i64 (r84 ++ [r88]))]]) (ACall.F (F := F) (c_impl_proving_write r80 (Node.mk (1 : Int) (0 : Int) (Term.mk (0 : Int) ([] : List Int)) (r84 ++ [r88])) r92 hr92)) (⟨_, _, rfl, NilR_refl _, ⟨_, _, rfl, ⟨_, rfl, ⟨_, _, rfl, rfl, ⟨_, _, rfl, rfl, ⟨_, _, rfl, rfl, ⟨_, _, rfl, .inr ⟨_, rfl⟩, ⟨_, _, rfl, rfl, rfl⟩⟩⟩⟩⟩⟩, rfl⟩⟩)) Try.call113 rfl rfl rfl rfl rfl ⟨rfl, rfl, trivial⟩ rfl rfl rfl rfl rfl rfl rfl rfl rfl rfl rfl ?_
                  refine TL_nil ?_
                  refine TZ_done (by kernel_rfl) ?_
                  refine T_keepH [] [0, 1] rfl rfl rfl rfl (by rw [hF]; rfl) ?_
                  refine T_ret ?_
                  obtain rfl := someI hm
                  have hn := CtlOK_out hc0
                  exact hx0 (.inr (r92.budget, r92.nodes, r92.failed)) hn
                refine TZ_cut 6 [true, true, true, false, true, true, true, false, false, false, false, false] ⟨[(0, .ptr 0 0 0), (1, .sl 2 (List.map a_Term u1.2.2.2.1)), (11, .ptr 1969 0 0), (12, .ptr 1970 0 0), (66, .bool j0), (70, .ptr 0 0 0), (71, .agg [.int .i64 r55.1.Const, .sl 1 (List.map a_i64 r55.1.Coeffs)]), (72, .agg [.int .i64 r72.Const, .sl 1 (List.map a_i64 r72.Coeffs)]), (73, .agg [.int .i64 (2 : Int), .int .i64 (0 : Int), .int .i64 r72.Const, .sl 1 (List.map a_i64 r72.Coeffs), .snil]), (74, .tup []), (75, .ptr 0 0 0), (76, .ptr 0 0 0), (77, .sl 2 (List.map a_Term u1.2.2.2.1)), (78, .agg [.int .i64 r55.1.Const, .sl 1 (List.map a_i64 r55.1.Coeffs)]), (79, .sl 2 (List.map a_Term r79.1)), (80, .tup []), (81, .ptr 0 0 0), (82, .ptr 1970 0 2), (83, .sl 1 (List.map a_i64 r55.2.1.by_)), (85, .ptr 1970 0 0), (86, .ptr 1970 0 1), (87, .sl 1 (List.map a_i64 r55.2.1.term.Coeffs))], [(0, .box [.int .i64 r80.budget, .ow 1, .bool r80.failed]), (1, .arr ⟨false, false⟩ 5 140 (List.map a_Node r80.nodes)), (1969, .box [.int .i64 r55.1.Const, .sl 1 (List.map a_i64 r55.1.Coeffs)]), (1970, .box [.int .i64 r55.2.1.term.Const, .sl 1 (List.map a_i64 r55.2.1.term.Coeffs), .sl 1 (List.map a_i64 r55.2.1.by_)])]⟩ ?_ (fun hS1974_1 => ?_)
                · refine TZ_one 3 (by kernel_rfl) rfl ?_
                  refine TL_callO [(1000, 2295)] (ACall.F (F := F) (c_impl_copyInts r55.2.1.by_ r84 hr84)) Try.call51 rfl rfl rfl rfl rfl rfl rfl rfl rfl rfl rfl rfl rfl ?_
                  refine TL_nil ?_
                  refine TZ_one 7 (by kernel_rfl) rfl ?_
                  refine TL_callF (ACall.F (F := F) (c_impl_gcd r55.2.1.term.Coeffs r88 hr88)) Try.call115 rfl rfl rfl rfl rfl ?_
                  refine TL_nil ?_
                  refine TZ_one 8 (by kernel_rfl) rfl ?_
                  refine TL_buildSlice 2695 (es := List.map a_i64 [r88]) el26 z2 rfl rfl rfl rfl rfl rfl rfl rfl rfl ?_
                  refine TL_nil ?_
                  refine TZ_one 9 (by kernel_rfl) rfl ?_
                  refine TL_undeep 2295 (p' := false) (by rw [hF]; rfl) rfl (ElR.map (f := a_i64) (g := a_i64) (fun _ => ⟨⟨rfl, rfl⟩, trivial⟩) r84) rfl ?_
                  refine TL_appendT (f := a_i64) (a := r84) (b := [r88]) el26 z2 rfl rfl rfl rfl rfl rfl rfl (capI_spec hq90) rfl rfl rfl rfl rfl ?_
                  refine TL_nil ?_
                  refine TZ_pure 10 (by kernel_rfl) rfl rfl rfl rfl rfl (op_buildP pl140 z140 rfl rfl rfl rfl rfl) ?_
                  refine TZ_one 11 (by kernel_rfl) rfl ?_
                  refine TL_freeze 2295 (by rw [hF]; rfl) rfl rfl rfl ?_
                  refine TL_call [(0, 0), (1, 1)] [] [1] (ACallF.nil (ys := [.ptr 0 0 0, .agg [.int .i64 (1 : Int), .int .i64 (0 : Int), .int .i64 (0 : Int), .snil, .sl 1 (List.map a_i64 (r84 ++ [r88]))]]) (xs := [.ptr 0 0 0, .agg [.int .i64 (1 : Int), .int .i64 (0 : Int), .int .i64 (0 : Int), .sl 1 (List.map a_i64 ([] : List Int)), .sl 1 (List.map a_i64 (r84 ++ [r88]))]]) (ACall.F (F := F) (c_impl_proving_write r80 (Node.mk (1 : Int) (0 : Int) (Term.mk (0 : Int) ([] : List Int)) (r84 ++ [r88])) r92 hr92)) (⟨_, _, rfl, NilR_refl _, ⟨_, _, rfl, ⟨_, rfl, ⟨_, _, rfl, rfl, ⟨_, _, rfl, rfl, ⟨_, _, rfl, rfl, ⟨_, _, rfl, .inr ⟨_, rfl⟩, ⟨_, _, rfl, rfl, rfl⟩⟩⟩⟩⟩⟩, rfl⟩⟩)) Try.call113 rfl rfl rfl rfl rfl ⟨rfl, rfl, trivial⟩ rfl rfl rfl rfl rfl rfl rfl rfl rfl rfl rfl ?_
                  refine TL_nil ?_
                  refine TZ_done (by kernel_rfl) ?_
                  refine T_keepH [] [0, 1] rfl rfl rfl rfl (by rw [hF]; rfl) ?_
                  refine T_ret ?_
                  obtain rfl := someI hm
                  have hn := CtlOK_out hc0
                  exact hx0 (.inr (r92.budget, r92.nodes, r92.failed)) hn
                refine TZ_cut 7 [true, true, true, false, true, true, false, false, false, false, false, false] ⟨[(0, .ptr 0 0 0), (1, .sl 2 (List.map a_Term u1.2.2.2.1)), (11, .ptr 1969 0 0), (12, .ptr 1970 0 0), (66, .bool j0), (70, .ptr 0 0 0), (71, .agg [.int .i64 r55.1.Const, .sl 1 (List.map a_i64 r55.1.Coeffs)]), (72, .agg [.int .i64 r72.Const, .sl 1 (List.map a_i64 r72.Coeffs)]), (73, .agg [.int .i64 (2 : Int), .int .i64 (0 : Int), .int .i64 r72.Const, .sl 1 (List.map a_i64 r72.Coeffs), .snil]), (74, .tup []), (75, .ptr 0 0 0), (76, .ptr 0 0 0), (77, .sl 2 (List.map a_Term u1.2.2.2.1)), (78, .agg [.int .i64 r55.1.Const, .sl 1 (List.map a_i64 r55.1.Coeffs)]), (79, .sl 2 (List.map a_Term r79.1)), (80, .tup []), (81, .ptr 0 0 0), (82, .ptr 1970 0 2), (83, .sl 1 (List.map a_i64 r55.2.1.by_)), (85, .ptr 1970 0 0), (86, .ptr 1970 0 1)], [(0, .box [.int .i64 r80.budget, .ow 1, .bool r80.failed]), (1, .arr ⟨false, false⟩ 5 140 (List.map a_Node r80.nodes)), (1969, .box [.int .i64 r55.1.Const, .sl 1 (List.map a_i64 r55.1.Coeffs)]), (1970, .box [.int .i64 r55.2.1.term.Const, .sl 1 (List.map a_i64 r55.2.1.term.Coeffs), .sl 1 (List.map a_i64 r55.2.1.by_)])]⟩ ?_ (fun hS1974_2 => ?_)
                · refine TZ_each [3, 6] (by kernel_rfl) rfl ?_
                  refine ⟨?_, ?_⟩
                  · refine ⟨_, rfl, ?_⟩
                    refine TL_callO [(1000, 2295)] (ACall.F (F := F) (c_impl_copyInts r55.2.1.by_ r84 hr84)) Try.call51 rfl rfl rfl rfl rfl rfl rfl rfl rfl rfl rfl rfl rfl ?_
                    refine TL_nil ?_
                    refine TZ_keepH [0, 1, 11, 12, 66, 70, 71, 72, 73, 74, 75, 76, 77, 78, 79, 80, 81, 82, 83, 84, 85, 86] [0, 1, 1969, 1970, 2295] rfl rfl rfl rfl (by rw [hF]; rfl) ?_
                    exact hS1974_0
                  · refine ⟨_, rfl, ?_⟩
                    refine TL_pure rfl rfl rfl rfl (op_load_one ag26 rfl rfl) ?_
                    refine TL_nil ?_
                    refine TZ_keepH [0, 1, 11, 12, 66, 70, 71, 72, 73, 74, 75, 76, 77, 78, 79, 80, 81, 82, 83, 85, 86, 87] [0, 1, 1969, 1970] rfl rfl rfl rfl (by rw [hF]; rfl) ?_
                    exact hS1974_1
                refine TZ_cut 7 [true, true, false, false, true, true, true, false, false, false, false, false] ⟨[(0, .ptr 0 0 0), (1, .sl 2 (List.map a_Term u1.2.2.2.1)), (11, .ptr 1969 0 0), (12, .ptr 1970 0 0), (66, .bool j0), (70, .ptr 0 0 0), (71, .agg [.int .i64 r55.1.Const, .sl 1 (List.map a_i64 r55.1.Coeffs)]), (72, .agg [.int .i64 r72.Const, .sl 1 (List.map a_i64 r72.Coeffs)]), (73, .agg [.int .i64 (2 : Int), .int .i64 (0 : Int), .int .i64 r72.Const, .sl 1 (List.map a_i64 r72.Coeffs), .snil]), (74, .tup []), (75, .ptr 0 0 0), (76, .ptr 0 0 0), (77, .sl 2 (List.map a_Term u1.2.2.2.1)), (78, .agg [.int .i64 r55.1.Const, .sl 1 (List.map a_i64 r55.1.Coeffs)]), (79, .sl 2 (List.map a_Term r79.1)), (80, .tup []), (81, .ptr 0 0 0), (82, .ptr 1970 0 2), (85, .ptr 1970 0 0), (86, .ptr 1970 0 1), (87, .sl 1 (List.map a_i64 r55.2.1.term.Coeffs))], [(0, .box [.int .i64 r80.budget, .ow 1, .bool r80.failed]), (1, .arr ⟨false, false⟩ 5 140 (List.map a_Node r80.nodes)), (1969, .box [.int .i64 r55.1.Const, .sl 1 (List.map a_i64 r55.1.Coeffs)]), (1970, .box [.int .i64 r55.2.1.term.Const, .sl 1 (List.map a_i64 r55.2.1.term.Coeffs), .sl 1 (List.map a_i64 r55.2.1.by_)])]⟩ ?_ (fun hS1974_3 => ?_)
                · refine TZ_one 2 (by kernel_rfl) rfl ?_
                  refine TL_pure rfl rfl rfl rfl (op_load_one ag26 rfl rfl) ?_
                  refine TL_nil ?_
                  refine TZ_one 3 (by kernel_rfl) rfl ?_
                  refine TL_callO [(1000, 2295)] (ACall.F (F := F) (c_impl_copyInts r55.2.1.by_ r84 hr84)) Try.call51 rfl rfl rfl rfl rfl rfl rfl rfl rfl rfl rfl rfl rfl ?_
                  refine TL_nil ?_
                  refine TZ_one 7 (by kernel_rfl) rfl ?_
                  refine TL_callF (ACall.F (F := F) (c_impl_gcd r55.2.1.term.Coeffs r88 hr88)) Try.call115 rfl rfl rfl rfl rfl ?_
                  refine TL_nil ?_
                  refine TZ_one 8 (by kernel_rfl) rfl ?_
                  refine TL_buildSlice 2695 (es := List.map a_i64 [r88]) el26 z2 rfl rfl rfl rfl rfl rfl rfl rfl rfl ?_
                  refine TL_nil ?_
                  refine TZ_one 9 (by kernel_rfl) rfl ?_
                  refine TL_undeep 2295 (p' := false) (by rw [hF]; rfl) rfl (ElR.map (f := a_i64) (g := a_i64) (fun _ => ⟨⟨rfl, rfl⟩, trivial⟩) r84) rfl ?_
                  refine TL_appendT (f := a_i64) (a := r84) (b := [r88]) el26 z2 rfl rfl rfl rfl rfl rfl rfl (capI_spec hq90) rfl rfl rfl rfl rfl ?_
                  refine TL_nil ?_
                  refine TZ_pure 10 (by kernel_rfl) rfl rfl rfl rfl rfl (op_buildP pl140 z140 rfl rfl rfl rfl rfl) ?_
                  refine TZ_one 11 (by kernel_rfl) rfl ?_
                  refine TL_freeze 2295 (by rw [hF]; rfl) rfl rfl rfl ?_
                  refine TL_call [(0, 0), (1, 1)] [] [1] (ACallF.nil (ys := [.ptr 0 0 0, .agg [.int .i64 (1 : Int), .int .i64 (0 : Int), .int .i64 (0 : Int), .snil, .sl 1 (List.map a_i64 (r84 ++ [r88]))]]) (xs := [.ptr 0 0 0, .agg [.int .i64 (1 : Int), .int .i64 (0 : Int), .int .i64 (0 : Int), .sl 1 (List.map a_i64 ([] : List Int)), .sl 1 (List.map a_i64 (r84 ++ [r88]))]]) (ACall.F (F := F) (c_impl_proving_write r80 (Node.mk (1 : Int) (0 : Int) (Term.mk (0 : Int) ([] : List Int)) (r84 ++ [r88])) r92 hr92)) (⟨_, _, rfl, NilR_refl _, ⟨_, _, rfl, ⟨_, rfl, ⟨_, _, rfl, rfl, ⟨_, _, rfl, rfl, ⟨_, _, rfl, rfl, ⟨_, _, rfl, .inr ⟨_, rfl⟩, ⟨_, _, rfl, rfl, rfl⟩⟩⟩⟩⟩⟩, rfl⟩⟩)) Try.call113 rfl rfl rfl rfl rfl ⟨rfl, rfl, trivial⟩ rfl rfl rfl rfl rfl rfl rfl rfl rfl rfl rfl ?_
                  refine TL_nil ?_
                  refine TZ_done (by kernel_rfl) ?_
                  refine T_keepH [] [0, 1] rfl rfl rfl rfl (by rw [hF]; rfl) ?_
                  refine T_ret ?_
                  obtain rfl := someI hm
                  have hn := CtlOK_out hc0
                  exact hx0 (.inr (r92.budget, r92.nodes, r92.failed)) hn
                refine TZ_each [2, 6] (by kernel_rfl) rfl ?_
                refine ⟨?_, ?_⟩
                · refine ⟨_, rfl, ?_⟩
                  refine TL_pure rfl rfl rfl rfl (op_load_one ag26 rfl rfl) ?_
                  refine TL_nil ?_
                  refine TZ_keepH [0, 1, 11, 12, 66, 70, 71, 72, 73, 74, 75, 76, 77, 78, 79, 80, 81, 82, 83, 85, 86] [0, 1, 1969, 1970] rfl rfl rfl rfl (by rw [hF]; rfl) ?_
                  exact hS1974_2
                · refine ⟨_, rfl, ?_⟩
                  refine TL_pure rfl rfl rfl rfl (op_load_one ag26 rfl rfl) ?_
                  refine TL_nil ?_
                  refine TZ_keepH [0, 1, 11, 12, 66, 70, 71, 72, 73, 74, 75, 76, 77, 78, 79, 80, 81, 82, 85, 86, 87] [0, 1, 1969, 1970] rfl rfl rfl rfl (by rw [hF]; rfl) ?_
                  exact hS1974_3
            · refine T_region ?_
              refine TL_pure rfl rfl rfl rfl (op_move rfl) ?_
              refine TL_pure rfl rfl rfl rfl (op_not rfl) ?_
              refine TL_pure rfl rfl rfl rfl (op_move rfl) ?_
              refine TL_split 61 rfl rfl rfl (fun hq => ?_) (fun hq => ?_)
              · replace hm := condT hq hm
                refine TL_pass rfl rfl rfl rfl rfl rfl rfl ?_
                refine TL_pass rfl rfl rfl rfl rfl rfl rfl ?_
                refine TL_pass rfl rfl rfl rfl rfl rfl rfl ?_
                refine TL_pass rfl rfl rfl rfl rfl rfl rfl ?_
                refine TL_pure rfl rfl rfl rfl (op_pick_true rfl rfl) ?_
                refine TL_nil ?_
                refine T_keepH [0, 1, 11, 12, 66] [0, 1, 1968, 1969, 1970] rfl rfl rfl rfl (by rw [hF]; rfl) ?_
                exact hj0 true hm
              · replace hm := condF hq hm
                refine TL_want rfl rfl ?_
                refine TL_pure rfl rfl rfl rfl (op_load_agg ag41 sz41 rfl rfl rfl) ?_
                refine TL_want rfl rfl ?_
                obtain ⟨r63, hr63, hm⟩ := bindS hm
                refine TL_callO [(1000, 2935)] (ACall.F (F := F) (c_impl_Term_opposite r55.1 r63 hr63)) Try.call82 rfl rfl rfl rfl rfl rfl rfl rfl rfl rfl rfl rfl rfl ?_
                refine TL_want rfl rfl ?_
                obtain ⟨r64, hr64, hm⟩ := bindS hm
                refine TL_callF (ACall.F (F := F) (c_impl_ValidTerm r63 r64 hr64)) Try.call68 rfl rfl rfl rfl rfl ?_
                refine TL_want rfl rfl ?_
                refine TL_pure rfl rfl rfl rfl (op_not rfl) ?_
                refine TL_pure rfl rfl rfl rfl (op_pick_false rfl rfl) ?_
                refine TL_nil ?_
                refine T_keepH [0, 1, 11, 12, 66] [0, 1, 1968, 1969, 1970] rfl rfl rfl rfl (by rw [hF]; rfl) ?_
                exact hj0 (!r64) hm
      · refine T_seq ?_
        refine T_region ?_
        refine TL_pure rfl rfl rfl rfl (op_lss rfl rfl) ?_
        refine TL_nil ?_
        refine T_seq ?_
        refine T_if_false rfl (decide_eq_false (by simp)) ?_
        refine T_keepH [0, 1, 4] [0, 1] rfl rfl rfl rfl (by rw [hF]; rfl) ?_
        refine T_exit ?_
        exact hx1 (s0.1, s0.2.1, s0.2.2.1, s0.2.2.2, false) hm
      · unfold m_impl_proving_work_F_L1 at hm
        refine T_seq ?_
        refine T_region ?_
        refine TL_pure rfl rfl rfl rfl (op_lss rfl rfl) ?_
        refine TL_nil ?_
        refine T_seq ?_
        refine T_if_true rfl (decide_eq_true (Int.ofNat_lt.2 hlt1)) ?_
        refine T_skip ?_
        refine T_seq ?_
        refine T_block ?_
        refine T_seq ?_
        refine T_region ?_
        refine TL_pure rfl rfl rfl rfl (op_move rfl) ?_
        refine TL_pure rfl rfl rfl rfl (op_index_sl el24 rfl rfl rfl (get_map hxn1) rfl) ?_
        refine TL_pure rfl rfl rfl rfl (op_load_agg ag41 sz41 rfl rfl rfl) ?_
        refine TL_alloc 1964 z41 rfl rfl rfl rfl rfl rfl rfl ?_
        refine TL_pure rfl rfl rfl rfl (op_assign rfl) ?_
        refine TL_store_box sz41 rfl rfl rfl rfl rfl rfl rfl rfl rfl ?_
        refine TL_nil ?_
        refine T_seq ?_
        refine T_region ?_
        refine TL_pure rfl rfl rfl rfl (op_load_agg ag41 sz41 rfl rfl rfl) ?_
        refine TL_pure rfl rfl rfl rfl (op_move rfl) ?_
        obtain ⟨r29, hr29, hm⟩ := bindS hm
        refine TL_callO [(1000, 1965)] (ACall.F (F := F) (c_impl_cuts x1 s0.2.2.2 r29 hr29)) Try.call109 rfl rfl rfl rfl rfl rfl rfl rfl rfl rfl rfl rfl rfl ?_
        refine TL_pure rfl rfl rfl rfl (op_move rfl) ?_
        refine TL_pure rfl rfl rfl rfl (op_extract rfl rfl) ?_
        refine TL_pure rfl rfl rfl rfl (op_extract rfl rfl) ?_
        refine TL_alloc 1966 z41 rfl rfl rfl rfl rfl rfl rfl ?_
        refine TL_store_box sz41 rfl rfl rfl rfl rfl rfl rfl rfl rfl ?_
        refine TL_pure rfl rfl rfl rfl (op_assign rfl) ?_
        refine TL_nil ?_
        refine T_seq ?_
        refine T_region ?_
        refine TL_pure rfl rfl rfl rfl (op_move rfl) ?_
        refine TL_nil ?_
        refine T_cond rfl (fun hq => ?_) (fun hq => ?_)
        · replace hm := condT hq hm
          refine T_seq ?_
          refine T_region ?_
          refine TL_pure rfl rfl rfl rfl (op_move rfl) ?_
          refine TL_pure rfl rfl rfl rfl (op_move rfl) ?_
          refine TL_pure rfl rfl rfl rfl (op_buildP pl140 z140 rfl rfl rfl rfl rfl) ?_
          obtain ⟨r36, hr36, hm⟩ := bindS hm
          refine TL_call [(0, 0), (1, 1)] [] [1] (ACallF.nil (ys := [.ptr 0 0 0, .agg [.int .i64 (3 : Int), .int .i64 (n1 : Int), .int .i64 (0 : Int), .snil, .snil]]) (xs := [.ptr 0 0 0, .agg [.int .i64 (3 : Int), .int .i64 (n1 : Int), .int .i64 (0 : Int), .sl 1 (List.map a_i64 ([] : List Int)), .sl 1 (List.map a_i64 ([] : List Int))]]) (ACall.F (F := F) (c_impl_proving_write (proving.mk s0.1 s0.2.1 s0.2.2.1) (Node.mk (3 : Int) (n1 : Int) (Term.mk (0 : Int) ([] : List Int)) ([] : List Int)) r36 hr36)) (⟨_, _, rfl, NilR_refl _, ⟨_, _, rfl, ⟨_, rfl, ⟨_, _, rfl, rfl, ⟨_, _, rfl, rfl, ⟨_, _, rfl, rfl, ⟨_, _, rfl, .inr ⟨_, rfl⟩, ⟨_, _, rfl, .inr ⟨_, rfl⟩, rfl⟩⟩⟩⟩⟩⟩, rfl⟩⟩)) Try.call113 rfl rfl rfl rfl rfl ⟨rfl, rfl, trivial⟩ rfl rfl rfl rfl rfl rfl rfl rfl rfl rfl rfl ?_
          refine TL_nil ?_
          refine T_seq ?_
          refine T_region ?_
          refine TL_pure rfl rfl rfl rfl (op_move rfl) ?_
          refine TL_pure rfl rfl rfl rfl (op_move rfl) ?_
          refine TL_pure rfl rfl rfl rfl (op_load_agg ag41 sz41 rfl rfl rfl) ?_
          refine TL_freeze 1965 (by rw [hF]; rfl) rfl rfl rfl ?_
          obtain ⟨r40, hr40, hm⟩ := bindS hm
          refine TL_call [(0, 0), (1, 1)] [] [1] (ACall.F (F := F) (c_impl_proving_add r36 s0.2.2.2 r29.1 r40 hr40)) Try.call114 rfl rfl rfl rfl rfl ⟨rfl, rfl, trivial⟩ rfl rfl rfl rfl rfl rfl rfl rfl rfl rfl rfl ?_
          refine TL_pure rfl rfl rfl rfl (op_assign rfl) ?_
          refine TL_nil ?_
          refine T_seq ?_
          refine T_region ?_
          refine TL_pure rfl rfl rfl rfl (op_assign rfl) ?_
          refine TL_nil ?_
          refine T_keepH [0, 1, 4] [0, 1] rfl rfl rfl rfl (by rw [hF]; rfl) ?_
          refine T_exit ?_
          obtain rfl := someI hm
          have hn := CtlOK_out hc1
          exact hx1 (r40.2.budget, r40.2.nodes, r40.2.failed, r40.1, true) hn
        · replace hm := condF hq hm
          refine T_skip ?_
          refine T_region ?_
          refine TL_pure rfl rfl rfl rfl (op_addN rfl rfl (Nat.lt_of_lt_of_le hlt1 hlen20)) ?_
          refine TL_pure rfl rfl rfl rfl (op_move rfl) ?_
          refine TL_nil ?_
          refine TR_keepH [0, 1, 4, 19, 20, 21] [0, 1] rfl rfl rfl rfl (by rw [hF]; rfl) ?_
          obtain rfl := someI hm
          have hn := CtlOK_next hc1
          exact hn _ rfl
    · replace hm := condF hq hm
      refine T_keepH [] [0, 1] rfl rfl rfl rfl (by rw [hF]; rfl) ?_
      refine T_exit ?_
      obtain rfl := someI hm
      have hn := CtlOK_out hc0
      exact hx0 (.inl (s0.1, s0.2.1, s0.2.2.1)) hn
theorem c_impl_proving_work : ∀ (n : Nat) (p0 : proving) (p1 : List Term) (out : proving), m_impl_proving_work n p0 p1 = some out → ACall Try.prog 90 [.ptr 0 0 0, .sl 2 (List.map a_Term p1)] [(0, .box [.int .i64 p0.budget, .ow 1, .bool p0.failed]), (1, .arr ⟨false, false⟩ 5 140 (List.map a_Node p0.nodes))] (.tup []) [(0, .box [.int .i64 out.budget, .ow 1, .bool out.failed]), (1, .arr ⟨false, false⟩ 5 140 (List.map a_Node out.nodes))] := by
  intro n
  induction n with
  | zero => intro p0 p1 out hm; cases hm
  | succ n ih => intro p0 p1 out hm; exact c_impl_proving_work_F (m_impl_proving_work n) ih p0 p1 out hm
theorem c_impl_ownNodes (p0 : List Node) (out : List Node) (hm : m_impl_ownNodes p0 = some out) : ACall Try.prog 91 [.sl 5 (List.map a_Node p0)] [] (.ow 1000) [(1000, .arr ⟨false, true⟩ 5 140 (List.map a_Node out))] := by
  refine ACall.intro Try.func91 rfl Try.ntmps91 rfl (fun F hF => ?_)
  unfold m_impl_ownNodes at hm
  refine T_seq ?_
  refine T_region ?_
  refine TL_pure rfl rfl rfl rfl (op_assign rfl) ?_
  refine TL_nil ?_
  refine T_seq ?_
  refine T_region ?_
  refine TL_pure rfl rfl rfl rfl (op_assign rfl) ?_
  refine TL_nil ?_
  refine T_seq ?_
  refine T_seq ?_
  refine T_region ?_
  refine TL_pure rfl rfl rfl rfl (op_move rfl) ?_
  refine TL_pure rfl rfl rfl rfl (op_lenT Try.underlying59 rfl (List.length_map _)) ?_
  refine TL_fact (fun _ _ _ hr => RelP.slLen (i := 6) rfl hr) (fun hlen7 => ?_)
  rw [List.length_map] at hlen7
  refine TL_pure rfl rfl rfl rfl (op_move rfl) ?_
  refine TL_nil ?_
  refine T_block ?_
  refine T_ownNil 3 30 ⟨false, true⟩ 140 rfl rfl (sz := 5) rfl rfl rfl ?_
  refine T_keepH [3, 6, 7, 8] [30] rfl rfl rfl rfl (by rw [hF]; rfl) ?_
  refine T_ren [(30, 17)] rfl rfl rfl (by rw [hF]; rfl) ?_
  refine T_loop ?_
  obtain ⟨u0, hl0, hm⟩ := bindS hm
  refine TR_forL2 p0 (m_impl_ownNodes_L0) (fun (s0 : List Node) => s0) (fun n0 (s0 : List Node) => ⟨[(3, .ow 17), (6, .sl 5 (List.map a_Node p0)), (7, .int .i64 (p0.length : Int)), (8, .int .i64 (n0 : Int))], [(17, .arr ⟨false, true⟩ 5 140 (List.map a_Node s0))]⟩) (fun u0 => .exit 0) (fun u0 => ⟨[(3, .ow 17)], [(17, .arr ⟨false, true⟩ 5 140 (List.map a_Node u0))]⟩) (fun u0 => m_impl_ownNodes_A0 u0 = some out) hl0 hm (fun u0 hm => ?_) (fun hx0 s0 hm => ?_) (fun hx0 n0 x0 s0 c0 hxn0 hlt0 hm hc0 => ?_)
  · unfold m_impl_ownNodes_A0 at hm
    refine T_seq ?_
    refine T_region ?_
    refine TL_pure rfl rfl rfl rfl (op_move rfl) ?_
    refine TL_pure rfl rfl rfl rfl (op_assign rfl) ?_
    refine TL_nil ?_
    refine T_keepH [2] [17] rfl rfl rfl rfl (by rw [hF]; rfl) ?_
    refine T_ren [(17, 1000)] rfl rfl rfl (by rw [hF]; rfl) ?_
    refine T_ret ?_
    obtain rfl := someI hm
    refine ⟨[_], [1000], ⟨rfl, trivial⟩, ?_, rfl, rfl, rfl, rfl⟩
    rfl
  · refine T_seq ?_
    refine T_region ?_
    refine TL_pure rfl rfl rfl rfl (op_lss rfl rfl) ?_
    refine TL_nil ?_
    refine T_seq ?_
    refine T_if_false rfl (decide_eq_false (by simp)) ?_
    refine T_keepH [3] [17] rfl rfl rfl rfl (by rw [hF]; rfl) ?_
    refine T_exit ?_
    exact hx0 s0 hm
  · unfold m_impl_ownNodes_L0 at hm
    refine T_seq ?_
    refine T_region ?_
    refine TL_pure rfl rfl rfl rfl (op_lss rfl rfl) ?_
    refine TL_nil ?_
    refine T_seq ?_
    refine T_if_true rfl (decide_eq_true (Int.ofNat_lt.2 hlt0)) ?_
    refine T_skip ?_
    refine T_seq ?_
    refine T_block ?_
    refine T_seq ?_
    refine T_region ?_
    refine TL_pure rfl rfl rfl rfl (op_index_sl el59 rfl rfl rfl (get_map hxn0) rfl) ?_
    refine TL_pure rfl rfl rfl rfl (op_load_agg ag140 sz140 rfl rfl rfl) ?_
    refine TL_alloc 24 z140 rfl rfl rfl rfl rfl rfl rfl ?_
    refine TL_store_box sz140 rfl rfl rfl rfl rfl rfl rfl rfl rfl ?_
    refine TL_nil ?_
    refine T_seq ?_
    refine T_drawZ [7, 9] mix (by kernel_rfl) rfl ?_
    obtain ⟨r14, hr14, hm⟩ := bindS hm
    obtain ⟨r17, hr17, hm⟩ := bindS hm
    refine TZ_pure 0 (by kernel_rfl) rfl rfl rfl rfl rfl (op_fieldAddr fa140_2 rfl rfl) ?_
    refine TZ_pure 1 (by kernel_rfl) rfl rfl rfl rfl rfl (op_load_agg ag41 sz41 rfl rfl rfl) ?_
    refine TZ_pure 3 (by kernel_rfl) rfl rfl rfl rfl rfl (op_fieldAddr fa140_3 rfl rfl) ?_
    refine TZ_pure 4 (by kernel_rfl) rfl rfl rfl rfl rfl (op_load_one ag26 rfl rfl) ?_
    refine TZ_one 2 (by kernel_rfl) rfl ?_
    refine TL_callO [(1000, 27)] (ACall.F (F := F) (c_impl_Term_own x0.Term r14 hr14)) Try.call63 rfl rfl rfl rfl rfl rfl rfl rfl rfl rfl rfl rfl rfl ?_
    refine TL_nil ?_
    refine TZ_pure 6 (by kernel_rfl) rfl rfl rfl rfl rfl (op_fieldAddr fa140_2 rfl rfl) ?_
    refine TZ_one 5 (by kernel_rfl) rfl ?_
    refine TL_callO [(1000, 28)] (ACall.F (F := F) (c_impl_copyInts x0.Multipliers r17 hr17)) Try.call51 rfl rfl rfl rfl rfl rfl rfl rfl rfl rfl rfl rfl rfl ?_
    refine TL_nil ?_
    refine TZ_one 7 (by kernel_rfl) rfl ?_
    refine TL_store_box sz41 rfl rfl rfl rfl rfl rfl rfl rfl rfl ?_
    refine TL_nil ?_
    refine TZ_pure 8 (by kernel_rfl) rfl rfl rfl rfl rfl (op_fieldAddr fa140_3 rfl rfl) ?_
    refine TZ_one 9 (by kernel_rfl) rfl ?_
    refine TL_store_box sz26 rfl rfl rfl rfl rfl rfl rfl rfl rfl ?_
    refine TL_nil ?_
    refine TZ_done (by kernel_rfl) ?_
    refine T_region ?_
    refine TL_pure rfl rfl rfl rfl (op_move rfl) ?_
    refine TL_pure rfl rfl rfl rfl (op_load_agg ag140 sz140 rfl rfl rfl) ?_
    refine TL_buildSliceD (ids := [27, 28]) (es := List.map a_Node [(Node.mk x0.Kind x0.Fact r14 r17)]) 29 el59 z140 rfl rfl rfl rfl rfl rfl (by rw [hF]; intro j hj; simp only [List.mem_cons, List.not_mem_nil, or_false] at hj; rcases hj with rfl | rfl <;> rfl) rfl rfl rfl rfl rfl rfl ?_
    obtain ⟨q23, hq23, hm⟩ := bindS hm
    refine TL_appendDT (f := a_Node) (a := s0) (b := [(Node.mk x0.Kind x0.Fact r14 r17)]) el59 z140 rfl rfl rfl rfl rfl rfl rfl rfl (by rw [hF]; rfl) (capI_spec hq23) rfl rfl rfl rfl rfl ?_
    refine TL_pure rfl rfl rfl rfl (op_assign rfl) ?_
    refine TL_nil ?_
    refine T_region ?_
    refine TL_pure rfl rfl rfl rfl (op_addN rfl rfl (Nat.lt_of_lt_of_le hlt0 hlen7)) ?_
    refine TL_pure rfl rfl rfl rfl (op_move rfl) ?_
    refine TL_nil ?_
    refine TR_keepH [3, 6, 7, 8] [17] rfl rfl rfl rfl (by rw [hF]; rfl) ?_
    obtain rfl := someI hm
    have hn := CtlOK_next hc0
    exact hn _ rfl
theorem c_impl_ProveSequent (p0 : Sequent) (p1 : Int) (out : (List Node) × Bool) (hm : m_impl_ProveSequent p0 p1 = some out) : ACall Try.prog 41 [.agg [.sl 2 (List.map a_Term p0.Facts), .int .i64 p0.Goal.Const, .sl 1 (List.map a_i64 p0.Goal.Coeffs)], .int .i64 p1] [] (.tup [.ow 1000, .bool out.2]) [(1000, .arr ⟨false, true⟩ 5 140 (List.map a_Node out.1))] := by
  refine ACall.intro Try.func41 rfl Try.ntmps41 rfl (fun F hF => ?_)
  unfold m_impl_ProveSequent at hm
  refine T_seq ?_
  refine T_region ?_
  refine TL_box 11 rfl rfl rfl rfl rfl rfl rfl ?_
  refine TL_pure rfl rfl rfl rfl (op_assign rfl) ?_
  refine TL_pure rfl rfl rfl rfl (op_assign rfl) ?_
  refine TL_nil ?_
  refine T_seq ?_
  refine T_region ?_
  refine TL_pure rfl rfl rfl rfl (op_load_agg ag54 sz54 rfl rfl rfl) ?_
  obtain ⟨r11, hr11, hm⟩ := bindS hm
  refine TL_callO [(1000, 12)] (ACall.F (F := F) (c_impl_ContextOf p0 r11 hr11)) Try.call38 rfl rfl rfl rfl rfl rfl rfl rfl rfl rfl rfl rfl rfl ?_
  refine TL_pure rfl rfl rfl rfl (op_move rfl) ?_
  refine TL_pure rfl rfl rfl rfl (op_extract rfl rfl) ?_
  refine TL_pure rfl rfl rfl rfl (op_extract rfl rfl) ?_
  refine TL_pure rfl rfl rfl rfl (op_assign rfl) ?_
  refine TL_pure rfl rfl rfl rfl (op_assign rfl) ?_
  refine TL_nil ?_
  refine T_seq ?_
  refine T_seq ?_
  refine T_region ?_
  refine TL_pure rfl rfl rfl rfl (op_move rfl) ?_
  refine TL_pure rfl rfl rfl rfl (op_not rfl) ?_
  refine TL_pure rfl rfl rfl rfl (op_move rfl) ?_
  refine TL_split 16 rfl rfl rfl (fun hq => ?_) (fun hq => ?_)
  · replace hm := condT hq hm
    refine TL_pass rfl rfl rfl rfl rfl rfl rfl ?_
    refine TL_pass rfl rfl rfl rfl rfl rfl rfl ?_
    refine TL_pass rfl rfl rfl rfl rfl rfl rfl ?_
    refine TL_pure rfl rfl rfl rfl (op_pick_true rfl rfl) ?_
    refine TL_nil ?_
    refine T_cond_true rfl ?_
    refine T_seq ?_
    refine T_region ?_
    refine TL_pure rfl rfl rfl rfl (op_assign rfl) ?_
    refine TL_pure rfl rfl rfl rfl (op_assign rfl) ?_
    refine TL_nil ?_
    refine T_ownNil 4 13 ⟨false, true⟩ 140 rfl rfl (sz := 5) rfl rfl rfl ?_
    refine T_keepH [4, 5] [13] rfl rfl rfl rfl (by rw [hF]; rfl) ?_
    refine T_ren [(13, 1000)] rfl rfl rfl (by rw [hF]; rfl) ?_
    refine T_ret ?_
    obtain rfl := someI hm
    refine ⟨[_, _], [1000], ⟨rfl, rfl, trivial⟩, ?_, rfl, rfl, rfl, rfl⟩
    rfl
  · replace hm := condF hq hm
    refine TL_want rfl rfl ?_
    refine TL_pure rfl rfl rfl rfl (op_move rfl) ?_
    refine TL_want rfl rfl ?_
    obtain ⟨r18, hr18, hm⟩ := bindS hm
    refine TL_callF (ACall.F (F := F) (c_impl_isBudget p1 r18 hr18)) Try.call89 rfl rfl rfl rfl rfl ?_
    refine TL_want rfl rfl ?_
    refine TL_pure rfl rfl rfl rfl (op_not rfl) ?_
    refine TL_pure rfl rfl rfl rfl (op_pick_false rfl rfl) ?_
    refine TL_nil ?_
    refine T_cond rfl (fun hq => ?_) (fun hq => ?_)
    · replace hm := condT hq hm
      refine T_seq ?_
      refine T_region ?_
      refine TL_pure rfl rfl rfl rfl (op_assign rfl) ?_
      refine TL_pure rfl rfl rfl rfl (op_assign rfl) ?_
      refine TL_nil ?_
      refine T_ownNil 4 14 ⟨false, true⟩ 140 rfl rfl (sz := 5) rfl rfl rfl ?_
      refine T_keepH [4, 5] [14] rfl rfl rfl rfl (by rw [hF]; rfl) ?_
      refine T_ren [(14, 1000)] rfl rfl rfl (by rw [hF]; rfl) ?_
      refine T_ret ?_
      obtain rfl := someI hm
      refine ⟨[_, _], [1000], ⟨rfl, rfl, trivial⟩, ?_, rfl, rfl, rfl, rfl⟩
      rfl
    · replace hm := condF hq hm
      refine T_skip ?_
      refine T_seq ?_
      refine T_region ?_
      refine TL_pure rfl rfl rfl rfl (op_move rfl) ?_
      refine TL_pure rfl rfl rfl rfl (op_buildP pl115 z115 rfl rfl rfl rfl rfl) ?_
      refine TL_box 15 rfl rfl rfl rfl rfl rfl rfl ?_
      refine TL_pure rfl rfl rfl rfl (op_assign rfl) ?_
      refine TL_nil ?_
      refine T_seq ?_
      refine T_region ?_
      refine TL_pure rfl rfl rfl rfl (op_move rfl) ?_
      refine TL_pure rfl rfl rfl rfl (op_move rfl) ?_
      refine TL_freeze 12 (by rw [hF]; rfl) rfl rfl rfl ?_
      refine TL_ownNilBox 15 1 16 ⟨false, false⟩ 140 rfl rfl rfl (sz := 5) rfl rfl rfl rfl ?_
      obtain ⟨r26, hr26, hm⟩ := bindS hm
      refine TL_call [(0, 15), (1, 16)] [] [16] (ACall.F (F := F) (c_impl_proving_work 1000 (proving.mk p1 ([] : List Node) false) r11.1 r26 hr26)) Try.call90 rfl rfl rfl rfl rfl ⟨rfl, rfl, trivial⟩ rfl rfl rfl rfl rfl rfl rfl rfl rfl rfl rfl ?_
      refine TL_nil ?_
      refine T_seq ?_
      refine T_seq ?_
      refine T_region ?_
      refine TL_pure rfl rfl rfl rfl (op_move rfl) ?_
      refine TL_pure rfl rfl rfl rfl (op_nilCheck rfl rfl) ?_
      refine TL_pure rfl rfl rfl rfl (op_fieldAddr fa115_2 rfl rfl) ?_
      refine TL_pure rfl rfl rfl rfl (op_load_one ag4 rfl rfl) ?_
      refine TL_nil ?_
      refine T_cond rfl (fun hq => ?_) (fun hq => ?_)
      · replace hm := condT hq hm
        refine T_seq ?_
        refine T_region ?_
        refine TL_pure rfl rfl rfl rfl (op_assign rfl) ?_
        refine TL_pure rfl rfl rfl rfl (op_assign rfl) ?_
        refine TL_nil ?_
        refine T_ownNil 4 17 ⟨false, true⟩ 140 rfl rfl (sz := 5) rfl rfl rfl ?_
        refine T_keepH [4, 5] [17] rfl rfl rfl rfl (by rw [hF]; rfl) ?_
        refine T_ren [(17, 1000)] rfl rfl rfl (by rw [hF]; rfl) ?_
        refine T_ret ?_
        obtain rfl := someI hm
        refine ⟨[_, _], [1000], ⟨rfl, rfl, trivial⟩, ?_, rfl, rfl, rfl, rfl⟩
        rfl
      · replace hm := condF hq hm
        refine T_skip ?_
        refine T_seq ?_
        refine T_region ?_
        refine TL_pure rfl rfl rfl rfl (op_move rfl) ?_
        refine TL_pure rfl rfl rfl rfl (op_nilCheck rfl rfl) ?_
        refine TL_pure rfl rfl rfl rfl (op_fieldAddr fa115_1 rfl rfl) ?_
        refine TL_pure rfl rfl rfl rfl (op_load_one ag59 rfl rfl) ?_
        obtain ⟨r35, hr35, hm⟩ := bindS hm
        refine TL_callO [(1000, 18)] (ACall.F (F := F) (c_impl_ownNodes r26.nodes r35 hr35)) Try.call91 rfl rfl rfl rfl rfl rfl rfl rfl rfl rfl rfl rfl rfl ?_
        refine TL_pure rfl rfl rfl rfl (op_assign rfl) ?_
        refine TL_pure rfl rfl rfl rfl (op_assign rfl) ?_
        refine TL_nil ?_
        refine T_keepH [4, 5] [18] rfl rfl rfl rfl (by rw [hF]; rfl) ?_
        refine T_ren [(18, 1000)] rfl rfl rfl (by rw [hF]; rfl) ?_
        refine T_ret ?_
        obtain rfl := someI hm
        refine ⟨[_, _], [1000], ⟨rfl, rfl, trivial⟩, ?_, rfl, rfl, rfl, rfl⟩
        rfl
theorem c_spec_l02All (p0 : List Term) (p1 : Int) (out : Bool) (hm : m_spec_l02All p0 p1 = some out) : ACall Try.prog 52 [.sl 2 (List.map a_Term p0), .int .i64 p1] [] (.bool out) [] := by
  refine ACall.intro Try.func52 rfl Try.ntmps52 rfl (fun F hF => ?_)
  unfold m_spec_l02All at hm
  refine T_seq ?_
  refine T_region ?_
  refine TL_pure rfl rfl rfl rfl (op_assign rfl) ?_
  refine TL_nil ?_
  refine T_seq ?_
  refine T_seq ?_
  refine T_region ?_
  refine TL_pure rfl rfl rfl rfl (op_assign rfl) ?_
  refine TL_nil ?_
  refine T_block ?_
  refine T_keepH [0, 1, 5] [] rfl rfl rfl rfl (by rw [hF]; rfl) ?_
  refine T_loop ?_
  obtain ⟨u0, hl0, hm⟩ := bindS hm
  refine TR_iter2 (m_spec_l02All_L0 p0) (fun (s0 : Int) => ⟨[(0, .sl 2 (List.map a_Term p0)), (1, .int .i64 p1), (5, .int .i64 s0)], []⟩) (fun u0 => match u0 with | .inl u0 => .exit 0 | .inr u0 => .ret) (fun u0 => match u0 with | .inl u0 => ⟨[(0, .sl 2 (List.map a_Term p0)), (1, .int .i64 p1)], []⟩ | .inr u0 => ⟨[(4, .bool u0)], []⟩) (fun u0 => m_spec_l02All_A0 p0 p1 u0 = some out) hl0 hm (fun u0 hm => ?_) (fun hx0 s0 c0 hm hc0 => ?_)
  · rcases u0 with u0 | u0
    · unfold m_spec_l02All_A0 at hm
      refine T_seq ?_
      refine T_region ?_
      refine TL_pure rfl rfl rfl rfl (op_move rfl) ?_
      refine TL_pure rfl rfl rfl rfl (op_lenT Try.underlying24 rfl (List.length_map _)) ?_
      refine TL_fact (fun _ _ _ hr => RelP.slLen (i := 17) rfl hr) (fun hlen18 => ?_)
      rw [List.length_map] at hlen18
      refine TL_pure rfl rfl rfl rfl (op_move rfl) ?_
      refine TL_pure rfl rfl rfl rfl (op_leq rfl rfl) ?_
      refine TL_pure rfl rfl rfl rfl (op_assign rfl) ?_
      refine TL_nil ?_
      refine T_keepH [4] [] rfl rfl rfl rfl (by rw [hF]; rfl) ?_
      refine T_ret ?_
      obtain rfl := someI hm
      refine ⟨[_], [], ⟨rfl, trivial⟩, ?_, rfl, rfl, rfl, rfl⟩
      rfl
    · unfold m_spec_l02All_A0 at hm
      obtain rfl := someI hm
      refine ⟨[_], [], ⟨rfl, trivial⟩, ?_, rfl, rfl, rfl, rfl⟩
      rfl
  · unfold m_spec_l02All_L0 at hm
    refine T_seq ?_
    refine T_seq ?_
    refine T_region ?_
    refine TL_pure rfl rfl rfl rfl (op_move rfl) ?_
    refine TL_pure rfl rfl rfl rfl (op_move rfl) ?_
    refine TL_pure rfl rfl rfl rfl (op_lenT Try.underlying24 rfl (List.length_map _)) ?_
    refine TL_fact (fun _ _ _ hr => RelP.slLen (i := 7) rfl hr) (fun hlen8 => ?_)
    rw [List.length_map] at hlen8
    refine TL_pure rfl rfl rfl rfl (op_lss rfl rfl) ?_
    refine TL_nil ?_
    refine T_cond rfl (fun hq => ?_) (fun hq => ?_)
    · replace hm := condT hq hm
      refine T_skip ?_
      refine T_seq ?_
      refine T_block ?_
      refine T_seq ?_
      refine T_region ?_
      refine TL_pure rfl rfl rfl rfl (op_move rfl) ?_
      refine TL_pure rfl rfl rfl rfl (op_move rfl) ?_
      obtain ⟨x14, hx14, hm⟩ := bindS hm
      refine TL_pure rfl rfl rfl rfl (op_indexT el24 rfl rfl hx14 rfl) ?_
      obtain ⟨r15, hr15, hm⟩ := bindS hm
      refine TL_callF (ACall.F (F := F) (c_spec_l02Is x14 r15 hr15)) Try.call74 rfl rfl rfl rfl rfl ?_
      refine TL_pure rfl rfl rfl rfl (op_not rfl) ?_
      refine TL_nil ?_
      refine T_cond rfl (fun hq => ?_) (fun hq => ?_)
      · replace hm := condT hq hm
        refine T_seq ?_
        refine T_region ?_
        refine TL_pure rfl rfl rfl rfl (op_assign rfl) ?_
        refine TL_nil ?_
        refine T_keepH [4] [] rfl rfl rfl rfl (by rw [hF]; rfl) ?_
        refine T_ret ?_
        obtain rfl := someI hm
        have hn := CtlOK_out hc0
        exact hx0 (.inr false) hn
      · replace hm := condF hq hm
        refine T_skip ?_
        refine T_region ?_
        refine TL_pure rfl rfl rfl rfl (op_move rfl) ?_
        refine TL_pure rfl rfl rfl rfl (op_addW rfl rfl) ?_
        refine TL_pure rfl rfl rfl rfl (op_assign rfl) ?_
        refine TL_nil ?_
        refine TR_keepH [0, 1, 5] [] rfl rfl rfl rfl (by rw [hF]; rfl) ?_
        obtain rfl := someI hm
        have hn := CtlOK_next hc0
        exact hn _ rfl
    · replace hm := condF hq hm
      refine T_keepH [0, 1] [] rfl rfl rfl rfl (by rw [hF]; rfl) ?_
      refine T_exit ?_
      obtain rfl := someI hm
      have hn := CtlOK_out hc0
      exact hx0 (.inl ()) hn
theorem c_spec_l02Sequent (p0 : Sequent) (out : Bool) (hm : m_spec_l02Sequent p0 = some out) : ACall Try.prog 92 [.cp [.sl 2 (List.map a_Term p0.Facts), .int .i64 p0.Goal.Const, .sl 1 (List.map a_i64 p0.Goal.Coeffs)]] [] (.bool out) [] := by
  refine ACall.intro Try.func92 rfl Try.ntmps92 rfl (fun F hF => ?_)
  unfold m_spec_l02Sequent at hm
  refine T_seq ?_
  refine T_region ?_
  refine TL_pure rfl rfl rfl rfl (op_assign rfl) ?_
  refine TL_nil ?_
  refine T_seq ?_
  refine T_region ?_
  refine TL_pure rfl rfl rfl rfl (op_move rfl) ?_
  refine TL_pure rfl rfl rfl rfl (op_nilCheck rfl rfl) ?_
  refine TL_pure rfl rfl rfl rfl (op_fieldAddrC (n := 1) fa54_0 rfl rfl rfl) ?_
  refine TL_pure rfl rfl rfl rfl (op_load_one ag24 rfl rfl) ?_
  obtain ⟨r7, hr7, hm⟩ := bindS hm
  refine TL_callF (ACall.F (F := F) (c_spec_l02All p0.Facts (13 : Int) r7 hr7)) Try.call52 rfl rfl rfl rfl rfl ?_
  refine TL_pure rfl rfl rfl rfl (op_move rfl) ?_
  refine TL_split 8 rfl rfl rfl (fun hq => ?_) (fun hq => ?_)
  · replace hm := condT hq hm
    refine TL_want rfl rfl ?_
    refine TL_pure rfl rfl rfl rfl (op_move rfl) ?_
    refine TL_want rfl rfl ?_
    refine TL_pure rfl rfl rfl rfl (op_nilCheck rfl rfl) ?_
    refine TL_want rfl rfl ?_
    refine TL_pure rfl rfl rfl rfl (op_fieldAddr fa54_1 rfl rfl) ?_
    refine TL_want rfl rfl ?_
    obtain ⟨r12, hr12, hm⟩ := bindS hm
    refine TL_callF (ACall.F (F := F) (c_spec_l02Is p0.Goal r12 hr12)) Try.call74 rfl rfl rfl rfl rfl ?_
    refine TL_pure rfl rfl rfl rfl (op_pick_true rfl rfl) ?_
    refine TL_pure rfl rfl rfl rfl (op_assign rfl) ?_
    refine TL_nil ?_
    refine T_keepH [2] [] rfl rfl rfl rfl (by rw [hF]; rfl) ?_
    refine T_ret ?_
    obtain rfl := someI hm
    refine ⟨[_], [], ⟨rfl, trivial⟩, ?_, rfl, rfl, rfl, rfl⟩
    rfl
  · replace hm := condF hq hm
    refine TL_pass rfl rfl rfl rfl rfl rfl rfl ?_
    refine TL_pass rfl rfl rfl rfl rfl rfl rfl ?_
    refine TL_pass rfl rfl rfl rfl rfl rfl rfl ?_
    refine TL_pass rfl rfl rfl rfl rfl rfl rfl ?_
    refine TL_pure rfl rfl rfl rfl (op_pick_false rfl rfl) ?_
    refine TL_pure rfl rfl rfl rfl (op_assign rfl) ?_
    refine TL_nil ?_
    refine T_keepH [2] [] rfl rfl rfl rfl (by rw [hF]; rfl) ?_
    refine T_ret ?_
    obtain rfl := someI hm
    refine ⟨[_], [], ⟨rfl, trivial⟩, ?_, rfl, rfl, rfl, rfl⟩
    rfl
theorem c_spec_l02Own (p0 : Term) (out : Term) (hm : m_spec_l02Own p0 = some out) : ACall Try.prog 76 [.cp [.int .i64 p0.Const, .sl 1 (List.map a_i64 p0.Coeffs)]] [] (.agg [.int .i64 out.Const, .ow 1000]) [(1000, .arr ⟨false, true⟩ 1 2 (List.map a_i64 out.Coeffs))] := by
  refine ACall.intro Try.func76 rfl Try.ntmps76 rfl (fun F hF => ?_)
  unfold m_spec_l02Own at hm
  refine T_seq ?_
  refine T_region ?_
  refine TL_alloc 11 z41 rfl rfl rfl rfl rfl rfl rfl ?_
  refine TL_nil ?_
  refine T_seq ?_
  refine T_drawZ [10] mix (by kernel_rfl) rfl ?_
  obtain ⟨r11, hr11, hm⟩ := bindS hm
  refine TZ_pure 0 (by kernel_rfl) rfl rfl rfl rfl rfl (op_move rfl) ?_
  refine TZ_pure 1 (by kernel_rfl) rfl rfl rfl rfl rfl (op_nilCheck rfl rfl) ?_
  refine TZ_pure 2 (by kernel_rfl) rfl rfl rfl rfl rfl (op_fieldAddrC (n := 1) fa41_0 rfl rfl rfl) ?_
  refine TZ_pure 3 (by kernel_rfl) rfl rfl rfl rfl rfl (op_load_one ag2 rfl rfl) ?_
  refine TZ_pure 4 (by kernel_rfl) rfl rfl rfl rfl rfl (op_move rfl) ?_
  refine TZ_pure 5 (by kernel_rfl) rfl rfl rfl rfl rfl (op_nilCheck rfl rfl) ?_
  refine TZ_pure 6 (by kernel_rfl) rfl rfl rfl rfl rfl (op_fieldAddr fa41_1 rfl rfl) ?_
  refine TZ_pure 7 (by kernel_rfl) rfl rfl rfl rfl rfl (op_load_one ag26 rfl rfl) ?_
  refine TZ_one 8 (by kernel_rfl) rfl ?_
  refine TL_callO [(1000, 13)] (ACall.F (F := F) (c_spec_l00Own p0.Coeffs r11 hr11)) Try.call54 rfl rfl rfl rfl rfl rfl rfl rfl rfl rfl rfl rfl rfl ?_
  refine TL_nil ?_
  refine TZ_pure 9 (by kernel_rfl) rfl rfl rfl rfl rfl (op_buildP pl41 z41 rfl rfl rfl rfl rfl) ?_
  refine TZ_one 10 (by kernel_rfl) rfl ?_
  refine TL_store_box sz41 rfl rfl rfl rfl rfl rfl rfl rfl rfl ?_
  refine TL_nil ?_
  refine TZ_done (by kernel_rfl) ?_
  refine T_keepH [2] [11, 13] rfl rfl rfl rfl (by rw [hF]; rfl) ?_
  refine T_ren [(11, 11), (13, 1000)] rfl rfl rfl (by rw [hF]; rfl) ?_
  refine T_ret ?_
  obtain rfl := someI hm
  refine ⟨[_], [1000], ⟨⟨_, _, rfl, rfl, .inr ⟨ag41, _, _, sz41, rfl, rfl⟩⟩, trivial⟩, ?_, rfl, rfl, rfl, rfl⟩
  rfl
theorem c_spec_l02OwnAll (p0 : List Term) (out : List Term) (hm : m_spec_l02OwnAll p0 = some out) : ACall Try.prog 75 [.sl 2 (List.map a_Term p0)] [] (.ow 1000) [(1000, .arr ⟨false, true⟩ 2 41 (List.map a_Term out))] := by
  refine ACall.intro Try.func75 rfl Try.ntmps75 rfl (fun F hF => ?_)
  unfold m_spec_l02OwnAll at hm
  refine T_seq ?_
  refine T_region ?_
  refine TL_pure rfl rfl rfl rfl (op_assign rfl) ?_
  refine TL_nil ?_
  refine T_seq ?_
  refine T_region ?_
  refine TL_buildSlice 11 (es := List.map a_Term ([] : List Term)) el24 z41 rfl rfl rfl rfl rfl rfl rfl rfl rfl ?_
  refine TL_pure rfl rfl rfl rfl (op_assign rfl) ?_
  refine TL_nil ?_
  refine T_seq ?_
  refine T_seq ?_
  refine T_region ?_
  refine TL_pure rfl rfl rfl rfl (op_assign rfl) ?_
  refine TL_nil ?_
  refine T_block ?_
  refine T_keepH [0, 3, 4] [11] rfl rfl rfl rfl (by rw [hF]; rfl) ?_
  refine T_deepen 11 (p' := false) (List.map a_Term ([] : List Term)) (by rw [hF]; rfl) rfl (ElR.nil) rfl rfl rfl ?_
  refine T_loop ?_
  obtain ⟨u0, hl0, hm⟩ := bindS hm
  refine TR_iter2 (m_spec_l02OwnAll_L0 p0) (fun (s0 : (List Term) × Int) => ⟨[(0, .sl 2 (List.map a_Term p0)), (3, .ow 11), (4, .int .i64 s0.2)], [(11, .arr ⟨false, true⟩ 2 41 (List.map a_Term s0.1))]⟩) (fun u0 => .exit 0) (fun u0 => ⟨[(3, .ow 11)], [(11, .arr ⟨false, true⟩ 2 41 (List.map a_Term u0))]⟩) (fun u0 => m_spec_l02OwnAll_A0 u0 = some out) hl0 hm (fun u0 hm => ?_) (fun hx0 s0 c0 hm hc0 => ?_)
  · unfold m_spec_l02OwnAll_A0 at hm
    refine T_seq ?_
    refine T_region ?_
    refine TL_pure rfl rfl rfl rfl (op_move rfl) ?_
    refine TL_pure rfl rfl rfl rfl (op_assign rfl) ?_
    refine TL_nil ?_
    refine T_keepH [2] [11] rfl rfl rfl rfl (by rw [hF]; rfl) ?_
    refine T_ren [(11, 1000)] rfl rfl rfl (by rw [hF]; rfl) ?_
    refine T_ret ?_
    obtain rfl := someI hm
    refine ⟨[_], [1000], ⟨rfl, trivial⟩, ?_, rfl, rfl, rfl, rfl⟩
    rfl
  · unfold m_spec_l02OwnAll_L0 at hm
    refine T_seq ?_
    refine T_seq ?_
    refine T_region ?_
    refine TL_pure rfl rfl rfl rfl (op_move rfl) ?_
    refine TL_pure rfl rfl rfl rfl (op_move rfl) ?_
    refine TL_pure rfl rfl rfl rfl (op_lenT Try.underlying24 rfl (List.length_map _)) ?_
    refine TL_fact (fun _ _ _ hr => RelP.slLen (i := 7) rfl hr) (fun hlen8 => ?_)
    rw [List.length_map] at hlen8
    refine TL_pure rfl rfl rfl rfl (op_lss rfl rfl) ?_
    refine TL_nil ?_
    refine T_cond rfl (fun hq => ?_) (fun hq => ?_)
    · replace hm := condT hq hm
      refine T_skip ?_
      refine T_seq ?_
      refine T_block ?_
      refine T_region ?_
      refine TL_pure rfl rfl rfl rfl (op_move rfl) ?_
      refine TL_pure rfl rfl rfl rfl (op_move rfl) ?_
      refine TL_pure rfl rfl rfl rfl (op_move rfl) ?_
      obtain ⟨x15, hx15, hm⟩ := bindS hm
      refine TL_pure rfl rfl rfl rfl (op_indexT el24 rfl rfl hx15 rfl) ?_
      obtain ⟨r16, hr16, hm⟩ := bindS hm
      refine TL_callO [(1000, 16)] (ACall.F (F := F) (c_spec_l02Own x15 r16 hr16)) Try.call76 rfl rfl rfl rfl rfl rfl rfl rfl rfl rfl rfl rfl rfl ?_
      refine TL_buildSliceD (ids := [16]) (es := List.map a_Term [r16]) 17 el24 z41 rfl rfl rfl rfl rfl rfl (by rw [hF]; intro j hj; simp only [List.mem_cons, List.not_mem_nil, or_false] at hj; rcases hj with rfl <;> rfl) rfl rfl rfl rfl rfl rfl ?_
      obtain ⟨q18, hq18, hm⟩ := bindS hm
      refine TL_appendDT (f := a_Term) (a := s0.1) (b := [r16]) el24 z41 rfl rfl rfl rfl rfl rfl rfl rfl (by rw [hF]; rfl) (capI_spec hq18) rfl rfl rfl rfl rfl ?_
      refine TL_pure rfl rfl rfl rfl (op_assign rfl) ?_
      refine TL_nil ?_
      refine T_region ?_
      refine TL_pure rfl rfl rfl rfl (op_move rfl) ?_
      refine TL_pure rfl rfl rfl rfl (op_addW rfl rfl) ?_
      refine TL_pure rfl rfl rfl rfl (op_assign rfl) ?_
      refine TL_nil ?_
      refine TR_keepH [0, 3, 4] [11] rfl rfl rfl rfl (by rw [hF]; rfl) ?_
      obtain rfl := someI hm
      have hn := CtlOK_next hc0
      exact hn _ rfl
    · replace hm := condF hq hm
      refine T_keepH [3] [11] rfl rfl rfl rfl (by rw [hF]; rfl) ?_
      refine T_exit ?_
      obtain rfl := someI hm
      have hn := CtlOK_out hc0
      exact hx0 s0.1 hn
theorem c_spec_l00Put (p0 : List Int) (p1 : Int) (out : List Int) (hm : m_spec_l00Put p0 p1 = some out) : ACall Try.prog 116 [.sl 1 (List.map a_i64 p0), .int .i64 p1] [] (.ow 1000) [(1000, .arr ⟨false, true⟩ 1 2 (List.map a_i64 out))] := by
  refine ACall.intro Try.func116 rfl Try.ntmps116 rfl (fun F hF => ?_)
  unfold m_spec_l00Put at hm
  refine T_seq ?_
  refine T_region ?_
  refine TL_pure rfl rfl rfl rfl (op_assign rfl) ?_
  refine TL_nil ?_
  refine T_seq ?_
  refine T_region ?_
  refine TL_buildSlice 11 (es := List.map a_i64 ([] : List Int)) el26 z2 rfl rfl rfl rfl rfl rfl rfl rfl rfl ?_
  refine TL_pure rfl rfl rfl rfl (op_assign rfl) ?_
  refine TL_nil ?_
  refine T_seq ?_
  refine T_region ?_
  refine TL_pure rfl rfl rfl rfl (op_assign rfl) ?_
  refine TL_nil ?_
  refine T_seq ?_
  refine T_seq ?_
  refine T_region ?_
  refine TL_pure rfl rfl rfl rfl (op_assign rfl) ?_
  refine TL_nil ?_
  refine T_block ?_
  refine T_keepH [0, 1, 5, 6, 7] [11] rfl rfl rfl rfl (by rw [hF]; rfl) ?_
  refine T_loop ?_
  obtain ⟨u0, hl0, hm⟩ := bindS hm
  refine TR_iter2 (m_spec_l00Put_L0 p0 p1) (fun (s0 : (List Int) × Bool × Int) => ⟨[(0, .sl 1 (List.map a_i64 p0)), (1, .int .i64 p1), (5, .ow 11), (6, .bool s0.2.1), (7, .int .i64 s0.2.2)], [(11, .arr ⟨false, false⟩ 1 2 (List.map a_i64 s0.1))]⟩) (fun u0 => .exit 0) (fun u0 => ⟨[(1, .int .i64 p1), (5, .ow 11), (6, .bool u0.2)], [(11, .arr ⟨false, false⟩ 1 2 (List.map a_i64 u0.1))]⟩) (fun u0 => m_spec_l00Put_A0 p1 u0 = some out) hl0 hm (fun u0 hm => ?_) (fun hx0 s0 c0 hm hc0 => ?_)
  · unfold m_spec_l00Put_A0 at hm
    refine T_seq ?_
    refine T_seq ?_
    refine T_region ?_
    refine TL_pure rfl rfl rfl rfl (op_move rfl) ?_
    refine TL_pure rfl rfl rfl rfl (op_not rfl) ?_
    refine TL_nil ?_
    refine T_cond rfl (fun hq => ?_) (fun hq => ?_)
    · replace hm := condT hq hm
      refine T_region ?_
      refine TL_pure rfl rfl rfl rfl (op_move rfl) ?_
      refine TL_pure rfl rfl rfl rfl (op_move rfl) ?_
      refine TL_buildSlice 21 (es := List.map a_i64 [p1]) el26 z2 rfl rfl rfl rfl rfl rfl rfl rfl rfl ?_
      obtain ⟨q47, hq47, hm⟩ := bindS hm
      refine TL_appendT (f := a_i64) (a := u0.1) (b := [p1]) el26 z2 rfl rfl rfl rfl rfl rfl rfl (capI_spec hq47) rfl rfl rfl rfl rfl ?_
      refine TL_pure rfl rfl rfl rfl (op_assign rfl) ?_
      refine TL_nil ?_
      refine T_seq ?_
      refine T_region ?_
      refine TL_pure rfl rfl rfl rfl (op_move rfl) ?_
      refine TL_pure rfl rfl rfl rfl (op_assign rfl) ?_
      refine TL_nil ?_
      refine T_keepH [4] [11] rfl rfl rfl rfl (by rw [hF]; rfl) ?_
      refine T_deepen 11 (p' := false) (List.map a_i64 (u0.1 ++ [p1])) (by rw [hF]; rfl) rfl (ElR.map (f := a_i64) (g := a_i64) (fun _ => ⟨⟨rfl, rfl⟩, trivial⟩) (u0.1 ++ [p1])) rfl rfl rfl ?_
      refine T_ren [(11, 1000)] rfl rfl rfl (by rw [hF]; rfl) ?_
      refine T_ret ?_
      obtain rfl := someI hm
      refine ⟨[_], [1000], ⟨rfl, trivial⟩, ?_, rfl, rfl, rfl, rfl⟩
      rfl
    · replace hm := condF hq hm
      refine T_skip ?_
      refine T_seq ?_
      refine T_region ?_
      refine TL_pure rfl rfl rfl rfl (op_move rfl) ?_
      refine TL_pure rfl rfl rfl rfl (op_assign rfl) ?_
      refine TL_nil ?_
      refine T_keepH [4] [11] rfl rfl rfl rfl (by rw [hF]; rfl) ?_
      refine T_deepen 11 (p' := false) (List.map a_i64 u0.1) (by rw [hF]; rfl) rfl (ElR.map (f := a_i64) (g := a_i64) (fun _ => ⟨⟨rfl, rfl⟩, trivial⟩) u0.1) rfl rfl rfl ?_
      refine T_ren [(11, 1000)] rfl rfl rfl (by rw [hF]; rfl) ?_
      refine T_ret ?_
      obtain rfl := someI hm
      refine ⟨[_], [1000], ⟨rfl, trivial⟩, ?_, rfl, rfl, rfl, rfl⟩
      rfl
  · unfold m_spec_l00Put_L0 at hm
    refine T_seq ?_
    refine T_seq ?_
    refine T_region ?_
    refine TL_pure rfl rfl rfl rfl (op_move rfl) ?_
    refine TL_pure rfl rfl rfl rfl (op_move rfl) ?_
    refine TL_pure rfl rfl rfl rfl (op_lenT Try.underlying26 rfl (List.length_map _)) ?_
    refine TL_fact (fun _ _ _ hr => RelP.slLen (i := 10) rfl hr) (fun hlen11 => ?_)
    rw [List.length_map] at hlen11
    refine TL_pure rfl rfl rfl rfl (op_lss rfl rfl) ?_
    refine TL_nil ?_
    refine T_cond rfl (fun hq => ?_) (fun hq => ?_)
    · replace hm := condT hq hm
      refine T_skip ?_
      refine T_seq ?_
      refine T_block ?_
      refine T_join (fun (j0 : (List Int) × Bool) => ⟨[(0, .sl 1 (List.map a_i64 p0)), (1, .int .i64 p1), (5, .ow 11), (6, .bool j0.2), (7, .int .i64 s0.2.2)], [(11, .arr ⟨false, false⟩ 1 2 (List.map a_i64 j0.1))]⟩) (fun j0 => m_spec_l00Put_J0 p0 s0 j0 = some c0) (fun j0 hm => ?_) (fun hj0 => ?_)
      · unfold m_spec_l00Put_J0 at hm
        refine T_region ?_
        refine TL_pure rfl rfl rfl rfl (op_move rfl) ?_
        refine TL_pure rfl rfl rfl rfl (op_move rfl) ?_
        refine TL_pure rfl rfl rfl rfl (op_move rfl) ?_
        obtain ⟨x38, hx38, hm⟩ := bindS hm
        refine TL_pure rfl rfl rfl rfl (op_indexT el26 rfl rfl hx38 rfl) ?_
        refine TL_pure rfl rfl rfl rfl (op_load_one ag2 rfl rfl) ?_
        refine TL_buildSlice 19 (es := List.map a_i64 [x38]) el26 z2 rfl rfl rfl rfl rfl rfl rfl rfl rfl ?_
        obtain ⟨q41, hq41, hm⟩ := bindS hm
        refine TL_appendT (f := a_i64) (a := j0.1) (b := [x38]) el26 z2 rfl rfl rfl rfl rfl rfl rfl (capI_spec hq41) rfl rfl rfl rfl rfl ?_
        refine TL_pure rfl rfl rfl rfl (op_assign rfl) ?_
        refine TL_nil ?_
        refine T_region ?_
        refine TL_pure rfl rfl rfl rfl (op_move rfl) ?_
        refine TL_pure rfl rfl rfl rfl (op_addW rfl rfl) ?_
        refine TL_pure rfl rfl rfl rfl (op_assign rfl) ?_
        refine TL_nil ?_
        refine TR_keepH [0, 1, 5, 6, 7] [11] rfl rfl rfl rfl (by rw [hF]; rfl) ?_
        obtain rfl := someI hm
        have hn := CtlOK_next hc0
        exact hn _ rfl
      · refine T_join (fun (j1 : Bool) => ⟨[(0, .sl 1 (List.map a_i64 p0)), (1, .int .i64 p1), (5, .ow 11), (6, .bool s0.2.1), (7, .int .i64 s0.2.2), (24, .bool j1)], [(11, .arr ⟨false, false⟩ 1 2 (List.map a_i64 s0.1))]⟩) (fun j1 => m_spec_l00Put_J1 p0 p1 s0 j1 = some c0) (fun j1 hm => ?_) (fun hj1 => ?_)
        · unfold m_spec_l00Put_J1 at hm
          refine T_cond rfl (fun hq => ?_) (fun hq => ?_)
          · replace hm := condT hq hm
            refine T_seq ?_
            refine T_region ?_
            refine TL_pure rfl rfl rfl rfl (op_assign rfl) ?_
            refine TL_nil ?_
            refine T_seq ?_
            refine T_region ?_
            refine TL_pure rfl rfl rfl rfl (op_move rfl) ?_
            refine TL_pure rfl rfl rfl rfl (op_move rfl) ?_
            obtain ⟨x27, hx27, hm⟩ := bindS hm
            refine TL_pure rfl rfl rfl rfl (op_indexT el26 rfl rfl hx27 rfl) ?_
            refine TL_pure rfl rfl rfl rfl (op_load_one ag2 rfl rfl) ?_
            refine TL_pure rfl rfl rfl rfl (op_move rfl) ?_
            refine TL_pure rfl rfl rfl rfl (op_gtr rfl rfl) ?_
            refine TL_nil ?_
            refine T_cond rfl (fun hq => ?_) (fun hq => ?_)
            · replace hm := condT hq hm
              refine T_region ?_
              refine TL_pure rfl rfl rfl rfl (op_move rfl) ?_
              refine TL_pure rfl rfl rfl rfl (op_move rfl) ?_
              refine TL_buildSlice 20 (es := List.map a_i64 [p1]) el26 z2 rfl rfl rfl rfl rfl rfl rfl rfl rfl ?_
              obtain ⟨q34, hq34, hm⟩ := bindS hm
              refine TL_appendT (f := a_i64) (a := s0.1) (b := [p1]) el26 z2 rfl rfl rfl rfl rfl rfl rfl (capI_spec hq34) rfl rfl rfl rfl rfl ?_
              refine TL_pure rfl rfl rfl rfl (op_assign rfl) ?_
              refine TL_nil ?_
              refine T_keepH [0, 1, 5, 6, 7] [11] rfl rfl rfl rfl (by rw [hF]; rfl) ?_
              exact hj0 ((s0.1 ++ [p1]), true) hm
            · replace hm := condF hq hm
              refine T_skip ?_
              refine T_keepH [0, 1, 5, 6, 7] [11] rfl rfl rfl rfl (by rw [hF]; rfl) ?_
              exact hj0 (s0.1, true) hm
          · replace hm := condF hq hm
            refine T_skip ?_
            refine T_keepH [0, 1, 5, 6, 7] [11] rfl rfl rfl rfl (by rw [hF]; rfl) ?_
            exact hj0 (s0.1, s0.2.1) hm
        · refine T_region ?_
          refine TL_pure rfl rfl rfl rfl (op_move rfl) ?_
          refine TL_pure rfl rfl rfl rfl (op_not rfl) ?_
          refine TL_pure rfl rfl rfl rfl (op_move rfl) ?_
          refine TL_split 17 rfl rfl rfl (fun hq => ?_) (fun hq => ?_)
          · replace hm := condT hq hm
            refine TL_want rfl rfl ?_
            refine TL_pure rfl rfl rfl rfl (op_move rfl) ?_
            refine TL_want rfl rfl ?_
            refine TL_pure rfl rfl rfl rfl (op_move rfl) ?_
            refine TL_want rfl rfl ?_
            obtain ⟨x20, hx20, hm⟩ := bindS hm
            refine TL_pure rfl rfl rfl rfl (op_indexT el26 rfl rfl hx20 rfl) ?_
            refine TL_want rfl rfl ?_
            refine TL_pure rfl rfl rfl rfl (op_load_one ag2 rfl rfl) ?_
            refine TL_want rfl rfl ?_
            refine TL_pure rfl rfl rfl rfl (op_move rfl) ?_
            refine TL_want rfl rfl ?_
            refine TL_pure rfl rfl rfl rfl (op_geq rfl rfl) ?_
            refine TL_pure rfl rfl rfl rfl (op_pick_true rfl rfl) ?_
            refine TL_nil ?_
            refine T_keepH [0, 1, 5, 6, 7, 24] [11] rfl rfl rfl rfl (by rw [hF]; rfl) ?_
            exact hj1 (decide (p1 ≤ x20)) hm
          · replace hm := condF hq hm
            refine TL_pass rfl rfl rfl rfl rfl rfl rfl ?_
            refine TL_pass rfl rfl rfl rfl rfl rfl rfl ?_
            refine TL_pass rfl rfl rfl rfl rfl rfl rfl ?_
            refine TL_pass rfl rfl rfl rfl rfl rfl rfl ?_
            refine TL_pass rfl rfl rfl rfl rfl rfl rfl ?_
            refine TL_pass rfl rfl rfl rfl rfl rfl rfl ?_
            refine TL_pure rfl rfl rfl rfl (op_pick_false rfl rfl) ?_
            refine TL_nil ?_
            refine T_keepH [0, 1, 5, 6, 7, 24] [11] rfl rfl rfl rfl (by rw [hF]; rfl) ?_
            exact hj1 false hm
    · replace hm := condF hq hm
      refine T_keepH [1, 5, 6] [11] rfl rfl rfl rfl (by rw [hF]; rfl) ?_
      refine T_exit ?_
      obtain rfl := someI hm
      have hn := CtlOK_out hc0
      exact hx0 (s0.1, s0.2.1) hn
theorem c_spec_l02Symbols (p0 : List Term) (out : List Int) (hm : m_spec_l02Symbols p0 = some out) : ACall Try.prog 93 [.sl 2 (List.map a_Term p0)] [] (.ow 1000) [(1000, .arr ⟨false, true⟩ 1 2 (List.map a_i64 out))] := by
  refine ACall.intro Try.func93 rfl Try.ntmps93 rfl (fun F hF => ?_)
  unfold m_spec_l02Symbols at hm
  refine T_seq ?_
  refine T_region ?_
  refine TL_pure rfl rfl rfl rfl (op_assign rfl) ?_
  refine TL_nil ?_
  refine T_seq ?_
  refine T_region ?_
  refine TL_buildSlice 11 (es := List.map a_i64 ([] : List Int)) el26 z2 rfl rfl rfl rfl rfl rfl rfl rfl rfl ?_
  refine TL_pure rfl rfl rfl rfl (op_assign rfl) ?_
  refine TL_nil ?_
  refine T_seq ?_
  refine T_seq ?_
  refine T_region ?_
  refine TL_pure rfl rfl rfl rfl (op_assign rfl) ?_
  refine TL_nil ?_
  refine T_block ?_
  refine T_keepH [0, 3, 4] [11] rfl rfl rfl rfl (by rw [hF]; rfl) ?_
  refine T_loop ?_
  obtain ⟨u0, hl0, hm⟩ := bindS hm
  refine TR_iter2 (m_spec_l02Symbols_L0 p0) (fun (s0 : (List Int) × Int) => ⟨[(0, .sl 2 (List.map a_Term p0)), (3, .ow 11), (4, .int .i64 s0.2)], [(11, .arr ⟨false, false⟩ 1 2 (List.map a_i64 s0.1))]⟩) (fun u0 => .exit 0) (fun u0 => ⟨[(3, .ow 11)], [(11, .arr ⟨false, false⟩ 1 2 (List.map a_i64 u0))]⟩) (fun u0 => m_spec_l02Symbols_A0 u0 = some out) hl0 hm (fun u0 hm => ?_) (fun hx0 s0 c0 hm hc0 => ?_)
  · unfold m_spec_l02Symbols_A0 at hm
    refine T_seq ?_
    refine T_region ?_
    refine TL_pure rfl rfl rfl rfl (op_move rfl) ?_
    refine TL_pure rfl rfl rfl rfl (op_assign rfl) ?_
    refine TL_nil ?_
    refine T_keepH [2] [11] rfl rfl rfl rfl (by rw [hF]; rfl) ?_
    refine T_deepen 11 (p' := false) (List.map a_i64 u0) (by rw [hF]; rfl) rfl (ElR.map (f := a_i64) (g := a_i64) (fun _ => ⟨⟨rfl, rfl⟩, trivial⟩) u0) rfl rfl rfl ?_
    refine T_ren [(11, 1000)] rfl rfl rfl (by rw [hF]; rfl) ?_
    refine T_ret ?_
    obtain rfl := someI hm
    refine ⟨[_], [1000], ⟨rfl, trivial⟩, ?_, rfl, rfl, rfl, rfl⟩
    rfl
  · unfold m_spec_l02Symbols_L0 at hm
    refine T_seq ?_
    refine T_seq ?_
    refine T_region ?_
    refine TL_pure rfl rfl rfl rfl (op_move rfl) ?_
    refine TL_pure rfl rfl rfl rfl (op_move rfl) ?_
    refine TL_pure rfl rfl rfl rfl (op_lenT Try.underlying24 rfl (List.length_map _)) ?_
    refine TL_fact (fun _ _ _ hr => RelP.slLen (i := 8) rfl hr) (fun hlen9 => ?_)
    rw [List.length_map] at hlen9
    refine TL_pure rfl rfl rfl rfl (op_lss rfl rfl) ?_
    refine TL_nil ?_
    refine T_cond rfl (fun hq => ?_) (fun hq => ?_)
    · replace hm := condT hq hm
      refine T_skip ?_
      refine T_seq ?_
      refine T_block ?_
      refine T_seq ?_
      refine T_region ?_
      refine TL_pure rfl rfl rfl rfl (op_assign rfl) ?_
      refine TL_nil ?_
      refine T_block ?_
      refine T_keepH [0, 3, 4, 5] [11] rfl rfl rfl rfl (by rw [hF]; rfl) ?_
      refine T_loop ?_
      obtain ⟨u1, hl1, hm⟩ := bindS hm
      refine TR_iter2 (m_spec_l02Symbols_L1 p0 s0) (fun (s1 : (List Int) × Int) => ⟨[(0, .sl 2 (List.map a_Term p0)), (3, .ow 11), (4, .int .i64 s0.2), (5, .int .i64 s1.2)], [(11, .arr ⟨false, false⟩ 1 2 (List.map a_i64 s1.1))]⟩) (fun u1 => .exit 2) (fun u1 => ⟨[(0, .sl 2 (List.map a_Term p0)), (3, .ow 11), (4, .int .i64 s0.2)], [(11, .arr ⟨false, false⟩ 1 2 (List.map a_i64 u1))]⟩) (fun u1 => m_spec_l02Symbols_A1 s0 u1 = some c0) hl1 hm (fun u1 hm => ?_) (fun hx1 s1 c1 hm hc1 => ?_)
      · unfold m_spec_l02Symbols_A1 at hm
        refine T_region ?_
        refine TL_pure rfl rfl rfl rfl (op_move rfl) ?_
        refine TL_pure rfl rfl rfl rfl (op_addW rfl rfl) ?_
        refine TL_pure rfl rfl rfl rfl (op_assign rfl) ?_
        refine TL_nil ?_
        refine TR_keepH [0, 3, 4] [11] rfl rfl rfl rfl (by rw [hF]; rfl) ?_
        obtain rfl := someI hm
        have hn := CtlOK_next hc0
        exact hn _ rfl
      · unfold m_spec_l02Symbols_L1 at hm
        refine T_seq ?_
        refine T_seq ?_
        refine T_region ?_
        refine TL_pure rfl rfl rfl rfl (op_move rfl) ?_
        refine TL_pure rfl rfl rfl rfl (op_move rfl) ?_
        refine TL_pure rfl rfl rfl rfl (op_move rfl) ?_
        obtain ⟨x16, hx16, hm⟩ := bindS hm
        refine TL_pure rfl rfl rfl rfl (op_indexT el24 rfl rfl hx16 rfl) ?_
        refine TL_pure rfl rfl rfl rfl (op_fieldAddr fa41_1 rfl rfl) ?_
        refine TL_pure rfl rfl rfl rfl (op_load_one ag26 rfl rfl) ?_
        refine TL_pure rfl rfl rfl rfl (op_lenT Try.underlying26 rfl (List.length_map _)) ?_
        refine TL_fact (fun _ _ _ hr => RelP.slLen (i := 18) rfl hr) (fun hlen19 => ?_)
        rw [List.length_map] at hlen19
        refine TL_pure rfl rfl rfl rfl (op_lss rfl rfl) ?_
        refine TL_nil ?_
        refine T_cond rfl (fun hq => ?_) (fun hq => ?_)
        · replace hm := condT hq hm
          refine T_skip ?_
          refine T_seq ?_
          refine T_block ?_
          refine T_seq ?_
          refine T_region ?_
          refine TL_pure rfl rfl rfl rfl (op_move rfl) ?_
          refine TL_pure rfl rfl rfl rfl (op_move rfl) ?_
          refine TL_pure rfl rfl rfl rfl (op_indexT el24 rfl rfl hx16 rfl) ?_
          refine TL_pure rfl rfl rfl rfl (op_fieldAddr fa41_1 rfl rfl) ?_
          refine TL_pure rfl rfl rfl rfl (op_load_one ag26 rfl rfl) ?_
          refine TL_pure rfl rfl rfl rfl (op_move rfl) ?_
          obtain ⟨x29, hx29, hm⟩ := bindS hm
          refine TL_pure rfl rfl rfl rfl (op_indexT el26 rfl rfl hx29 rfl) ?_
          refine TL_pure rfl rfl rfl rfl (op_load_one ag2 rfl rfl) ?_
          refine TL_pure rfl rfl rfl rfl (op_neq rfl rfl) ?_
          refine TL_nil ?_
          refine T_cond rfl (fun hq => ?_) (fun hq => ?_)
          · replace hm := condT hq hm
            refine T_region ?_
            refine TL_pure rfl rfl rfl rfl (op_move rfl) ?_
            refine TL_pure rfl rfl rfl rfl (op_move rfl) ?_
            obtain ⟨r34, hr34, hm⟩ := bindS hm
            refine TL_callO [(1000, 20)] (ACall.F (F := F) (c_spec_l00Put s1.1 s1.2 r34 hr34)) Try.call116 rfl rfl rfl rfl rfl rfl rfl rfl rfl rfl rfl rfl rfl ?_
            refine TL_pure rfl rfl rfl rfl (op_assign rfl) ?_
            refine TL_nil ?_
            refine T_region ?_
            refine TL_pure rfl rfl rfl rfl (op_move rfl) ?_
            refine TL_pure rfl rfl rfl rfl (op_addW rfl rfl) ?_
            refine TL_pure rfl rfl rfl rfl (op_assign rfl) ?_
            refine TL_nil ?_
            refine TR_keepH [0, 3, 4, 5] [20] rfl rfl rfl rfl (by rw [hF]; rfl) ?_
            refine TR_undeep 20 (p' := false) (by rw [hF]; rfl) rfl (ElR.map (f := a_i64) (g := a_i64) (fun _ => ⟨⟨rfl, rfl⟩, trivial⟩) r34) rfl ?_
            refine TR_ren [(20, 11)] rfl rfl rfl (by rw [hF]; rfl) ?_
            obtain rfl := someI hm
            have hn := CtlOK_next hc1
            exact hn _ rfl
          · replace hm := condF hq hm
            refine T_skip ?_
            refine T_region ?_
            refine TL_pure rfl rfl rfl rfl (op_move rfl) ?_
            refine TL_pure rfl rfl rfl rfl (op_addW rfl rfl) ?_
            refine TL_pure rfl rfl rfl rfl (op_assign rfl) ?_
            refine TL_nil ?_
            refine TR_keepH [0, 3, 4, 5] [11] rfl rfl rfl rfl (by rw [hF]; rfl) ?_
            obtain rfl := someI hm
            have hn := CtlOK_next hc1
            exact hn _ rfl
        · replace hm := condF hq hm
          refine T_keepH [0, 3, 4] [11] rfl rfl rfl rfl (by rw [hF]; rfl) ?_
          refine T_exit ?_
          obtain rfl := someI hm
          have hn := CtlOK_out hc1
          exact hx1 s1.1 hn
    · replace hm := condF hq hm
      refine T_keepH [3] [11] rfl rfl rfl rfl (by rw [hF]; rfl) ?_
      refine T_exit ?_
      obtain rfl := someI hm
      have hn := CtlOK_out hc0
      exact hx0 s0.1 hn
theorem c_spec_l02Eval (p0 : Term) (p1 : List Int) (out : Int) (hm : m_spec_l02Eval p0 p1 = some out) : ACall Try.prog 125 [.cp [.int .i64 p0.Const, .sl 1 (List.map a_i64 p0.Coeffs)], .sl 1 (List.map a_i64 p1)] [] (.int .i64 out) [] := by
  refine ACall.intro Try.func125 rfl Try.ntmps125 rfl (fun F hF => ?_)
  unfold m_spec_l02Eval at hm
  refine T_seq ?_
  refine T_region ?_
  refine TL_pure rfl rfl rfl rfl (op_assign rfl) ?_
  refine TL_nil ?_
  refine T_seq ?_
  refine T_region ?_
  refine TL_pure rfl rfl rfl rfl (op_move rfl) ?_
  refine TL_pure rfl rfl rfl rfl (op_nilCheck rfl rfl) ?_
  refine TL_pure rfl rfl rfl rfl (op_fieldAddrC (n := 1) fa41_0 rfl rfl rfl) ?_
  refine TL_pure rfl rfl rfl rfl (op_load_one ag2 rfl rfl) ?_
  refine TL_pure rfl rfl rfl rfl (op_assign rfl) ?_
  refine TL_nil ?_
  refine T_seq ?_
  refine T_seq ?_
  refine T_region ?_
  refine TL_pure rfl rfl rfl rfl (op_assign rfl) ?_
  refine TL_nil ?_
  refine T_block ?_
  refine T_keepH [0, 1, 5, 6] [] rfl rfl rfl rfl (by rw [hF]; rfl) ?_
  refine T_loop ?_
  obtain ⟨u0, hl0, hm⟩ := bindS hm
  refine TR_iter2 (m_spec_l02Eval_L0 p0 p1) (fun (s0 : Int × Int) => ⟨[(0, .cp [.int .i64 p0.Const, .sl 1 (List.map a_i64 p0.Coeffs)]), (1, .sl 1 (List.map a_i64 p1)), (5, .int .i64 s0.1), (6, .int .i64 s0.2)], []⟩) (fun u0 => .exit 0) (fun u0 => ⟨[(5, .int .i64 u0)], []⟩) (fun u0 => m_spec_l02Eval_A0 u0 = some out) hl0 hm (fun u0 hm => ?_) (fun hx0 s0 c0 hm hc0 => ?_)
  · unfold m_spec_l02Eval_A0 at hm
    refine T_seq ?_
    refine T_region ?_
    refine TL_pure rfl rfl rfl rfl (op_move rfl) ?_
    refine TL_pure rfl rfl rfl rfl (op_assign rfl) ?_
    refine TL_nil ?_
    refine T_keepH [4] [] rfl rfl rfl rfl (by rw [hF]; rfl) ?_
    refine T_ret ?_
    obtain rfl := someI hm
    refine ⟨[_], [], ⟨rfl, trivial⟩, ?_, rfl, rfl, rfl, rfl⟩
    rfl
  · unfold m_spec_l02Eval_L0 at hm
    refine T_seq ?_
    refine T_seq ?_
    refine T_region ?_
    refine TL_pure rfl rfl rfl rfl (op_move rfl) ?_
    refine TL_pure rfl rfl rfl rfl (op_move rfl) ?_
    refine TL_pure rfl rfl rfl rfl (op_nilCheck rfl rfl) ?_
    refine TL_pure rfl rfl rfl rfl (op_fieldAddr fa41_1 rfl rfl) ?_
    refine TL_pure rfl rfl rfl rfl (op_load_one ag26 rfl rfl) ?_
    refine TL_pure rfl rfl rfl rfl (op_lenT Try.underlying26 rfl (List.length_map _)) ?_
    refine TL_fact (fun _ _ _ hr => RelP.slLen (i := 15) rfl hr) (fun hlen16 => ?_)
    rw [List.length_map] at hlen16
    refine TL_pure rfl rfl rfl rfl (op_lss rfl rfl) ?_
    refine TL_nil ?_
    refine T_cond rfl (fun hq => ?_) (fun hq => ?_)
    · replace hm := condT hq hm
      refine T_skip ?_
      refine T_seq ?_
      refine T_block ?_
      refine T_drawZ [] mix (by kernel_rfl) rfl ?_
      obtain ⟨x26, hx26, hm⟩ := bindS hm
      obtain ⟨x30, hx30, hm⟩ := bindS hm
      refine TZ_pure 0 (by kernel_rfl) rfl rfl rfl rfl rfl (op_move rfl) ?_
      refine TZ_pure 1 (by kernel_rfl) rfl rfl rfl rfl rfl (op_move rfl) ?_
      refine TZ_pure 2 (by kernel_rfl) rfl rfl rfl rfl rfl (op_nilCheck rfl rfl) ?_
      refine TZ_pure 3 (by kernel_rfl) rfl rfl rfl rfl rfl (op_fieldAddr fa41_1 rfl rfl) ?_
      refine TZ_pure 4 (by kernel_rfl) rfl rfl rfl rfl rfl (op_load_one ag26 rfl rfl) ?_
      refine TZ_pure 5 (by kernel_rfl) rfl rfl rfl rfl rfl (op_move rfl) ?_
      refine TZ_pure 6 (by kernel_rfl) rfl rfl rfl rfl rfl (op_indexT el26 rfl rfl hx26 rfl) ?_
      refine TZ_pure 7 (by kernel_rfl) rfl rfl rfl rfl rfl (op_load_one ag2 rfl rfl) ?_
      refine TZ_pure 8 (by kernel_rfl) rfl rfl rfl rfl rfl (op_move rfl) ?_
      refine TZ_pure 9 (by kernel_rfl) rfl rfl rfl rfl rfl (op_move rfl) ?_
      refine TZ_pure 10 (by kernel_rfl) rfl rfl rfl rfl rfl (op_indexT el26 rfl rfl hx30 rfl) ?_
      refine TZ_pure 11 (by kernel_rfl) rfl rfl rfl rfl rfl (op_load_one ag2 rfl rfl) ?_
      refine TZ_pure 12 (by kernel_rfl) rfl rfl rfl rfl rfl (op_mulW rfl rfl) ?_
      refine TZ_pure 13 (by kernel_rfl) rfl rfl rfl rfl rfl (op_addW rfl rfl) ?_
      refine TZ_pure 14 (by kernel_rfl) rfl rfl rfl rfl rfl (op_assign rfl) ?_
      refine TZ_done (by kernel_rfl) ?_
      refine T_region ?_
      refine TL_pure rfl rfl rfl rfl (op_move rfl) ?_
      refine TL_pure rfl rfl rfl rfl (op_addW rfl rfl) ?_
      refine TL_pure rfl rfl rfl rfl (op_assign rfl) ?_
      refine TL_nil ?_
      refine TR_keepH [0, 1, 5, 6] [] rfl rfl rfl rfl (by rw [hF]; rfl) ?_
      obtain rfl := someI hm
      have hn := CtlOK_next hc0
      exact hn _ rfl
    · replace hm := condF hq hm
      refine T_keepH [5] [] rfl rfl rfl rfl (by rw [hF]; rfl) ?_
      refine T_exit ?_
      obtain rfl := someI hm
      have hn := CtlOK_out hc0
      exact hx0 s0.1 hn
theorem c_spec_l02Counter (p0 : Sequent) (p1 : List Int) (out : Bool) (hm : m_spec_l02Counter p0 p1 = some out) : ACall Try.prog 117 [.cp [.sl 2 (List.map a_Term p0.Facts), .int .i64 p0.Goal.Const, .sl 1 (List.map a_i64 p0.Goal.Coeffs)], .sl 1 (List.map a_i64 p1)] [] (.bool out) [] := by
  refine ACall.intro Try.func117 rfl Try.ntmps117 rfl (fun F hF => ?_)
  unfold m_spec_l02Counter at hm
  refine T_seq ?_
  refine T_region ?_
  refine TL_pure rfl rfl rfl rfl (op_assign rfl) ?_
  refine TL_nil ?_
  refine T_seq ?_
  refine T_seq ?_
  refine T_region ?_
  refine TL_pure rfl rfl rfl rfl (op_assign rfl) ?_
  refine TL_nil ?_
  refine T_block ?_
  refine T_keepH [0, 1, 5] [] rfl rfl rfl rfl (by rw [hF]; rfl) ?_
  refine T_loop ?_
  obtain ⟨u0, hl0, hm⟩ := bindS hm
  refine TR_iter2 (m_spec_l02Counter_L0 p0 p1) (fun (s0 : Int) => ⟨[(0, .cp [.sl 2 (List.map a_Term p0.Facts), .int .i64 p0.Goal.Const, .sl 1 (List.map a_i64 p0.Goal.Coeffs)]), (1, .sl 1 (List.map a_i64 p1)), (5, .int .i64 s0)], []⟩) (fun u0 => match u0 with | .inl u0 => .exit 0 | .inr u0 => .ret) (fun u0 => match u0 with | .inl u0 => ⟨[(0, .cp [.sl 2 (List.map a_Term p0.Facts), .int .i64 p0.Goal.Const, .sl 1 (List.map a_i64 p0.Goal.Coeffs)]), (1, .sl 1 (List.map a_i64 p1))], []⟩ | .inr u0 => ⟨[(4, .bool u0)], []⟩) (fun u0 => m_spec_l02Counter_A0 p0 p1 u0 = some out) hl0 hm (fun u0 hm => ?_) (fun hx0 s0 c0 hm hc0 => ?_)
  · rcases u0 with u0 | u0
    · unfold m_spec_l02Counter_A0 at hm
      refine T_seq ?_
      refine T_region ?_
      refine TL_pure rfl rfl rfl rfl (op_move rfl) ?_
      refine TL_pure rfl rfl rfl rfl (op_nilCheck rfl rfl) ?_
      refine TL_pure rfl rfl rfl rfl (op_fieldAddr fa54_1 rfl rfl) ?_
      refine TL_pure rfl rfl rfl rfl (op_move rfl) ?_
      obtain ⟨r28, hr28, hm⟩ := bindS hm
      refine TL_callF (ACall.F (F := F) (c_spec_l02Eval p0.Goal p1 r28 hr28)) Try.call125 rfl rfl rfl rfl rfl ?_
      refine TL_pure rfl rfl rfl rfl (op_lss rfl rfl) ?_
      refine TL_pure rfl rfl rfl rfl (op_assign rfl) ?_
      refine TL_nil ?_
      refine T_keepH [4] [] rfl rfl rfl rfl (by rw [hF]; rfl) ?_
      refine T_ret ?_
      obtain rfl := someI hm
      refine ⟨[_], [], ⟨rfl, trivial⟩, ?_, rfl, rfl, rfl, rfl⟩
      rfl
    · unfold m_spec_l02Counter_A0 at hm
      obtain rfl := someI hm
      refine ⟨[_], [], ⟨rfl, trivial⟩, ?_, rfl, rfl, rfl, rfl⟩
      rfl
  · unfold m_spec_l02Counter_L0 at hm
    refine T_seq ?_
    refine T_seq ?_
    refine T_region ?_
    refine TL_pure rfl rfl rfl rfl (op_move rfl) ?_
    refine TL_pure rfl rfl rfl rfl (op_move rfl) ?_
    refine TL_pure rfl rfl rfl rfl (op_nilCheck rfl rfl) ?_
    refine TL_pure rfl rfl rfl rfl (op_fieldAddrC (n := 1) fa54_0 rfl rfl rfl) ?_
    refine TL_pure rfl rfl rfl rfl (op_load_one ag24 rfl rfl) ?_
    refine TL_pure rfl rfl rfl rfl (op_lenT Try.underlying24 rfl (List.length_map _)) ?_
    refine TL_fact (fun _ _ _ hr => RelP.slLen (i := 10) rfl hr) (fun hlen11 => ?_)
    rw [List.length_map] at hlen11
    refine TL_pure rfl rfl rfl rfl (op_lss rfl rfl) ?_
    refine TL_nil ?_
    refine T_cond rfl (fun hq => ?_) (fun hq => ?_)
    · replace hm := condT hq hm
      refine T_skip ?_
      refine T_seq ?_
      refine T_block ?_
      refine T_seq ?_
      refine T_region ?_
      refine TL_pure rfl rfl rfl rfl (op_move rfl) ?_
      refine TL_pure rfl rfl rfl rfl (op_nilCheck rfl rfl) ?_
      refine TL_pure rfl rfl rfl rfl (op_fieldAddrC (n := 1) fa54_0 rfl rfl rfl) ?_
      refine TL_pure rfl rfl rfl rfl (op_load_one ag24 rfl rfl) ?_
      refine TL_pure rfl rfl rfl rfl (op_move rfl) ?_
      obtain ⟨x20, hx20, hm⟩ := bindS hm
      refine TL_pure rfl rfl rfl rfl (op_indexT el24 rfl rfl hx20 rfl) ?_
      refine TL_pure rfl rfl rfl rfl (op_move rfl) ?_
      obtain ⟨r22, hr22, hm⟩ := bindS hm
      refine TL_callF (ACall.F (F := F) (c_spec_l02Eval x20 p1 r22 hr22)) Try.call125 rfl rfl rfl rfl rfl ?_
      refine TL_pure rfl rfl rfl rfl (op_lss rfl rfl) ?_
      refine TL_nil ?_
      refine T_cond rfl (fun hq => ?_) (fun hq => ?_)
      · replace hm := condT hq hm
        refine T_seq ?_
        refine T_region ?_
        refine TL_pure rfl rfl rfl rfl (op_assign rfl) ?_
        refine TL_nil ?_
        refine T_keepH [4] [] rfl rfl rfl rfl (by rw [hF]; rfl) ?_
        refine T_ret ?_
        obtain rfl := someI hm
        have hn := CtlOK_out hc0
        exact hx0 (.inr false) hn
      · replace hm := condF hq hm
        refine T_skip ?_
        refine T_region ?_
        refine TL_pure rfl rfl rfl rfl (op_move rfl) ?_
        refine TL_pure rfl rfl rfl rfl (op_addW rfl rfl) ?_
        refine TL_pure rfl rfl rfl rfl (op_assign rfl) ?_
        refine TL_nil ?_
        refine TR_keepH [0, 1, 5] [] rfl rfl rfl rfl (by rw [hF]; rfl) ?_
        obtain rfl := someI hm
        have hn := CtlOK_next hc0
        exact hn _ rfl
    · replace hm := condF hq hm
      refine T_keepH [0, 1] [] rfl rfl rfl rfl (by rw [hF]; rfl) ?_
      refine T_exit ?_
      obtain rfl := someI hm
      have hn := CtlOK_out hc0
      exact hx0 (.inl ()) hn
theorem c_spec_l02Least (p0 : Sequent) (p1 : List Int) (p2 : Int) (out : (List Int) × Bool) (hm : m_spec_l02Least p0 p1 p2 = some out) : ACall Try.prog 94 [.cp [.sl 2 (List.map a_Term p0.Facts), .int .i64 p0.Goal.Const, .sl 1 (List.map a_i64 p0.Goal.Coeffs)], .sl 1 (List.map a_i64 p1), .int .i64 p2] [] (.tup [.ow 1000, .bool out.2]) [(1000, .arr ⟨false, true⟩ 1 2 (List.map a_i64 out.1))] := by
  refine ACall.intro Try.func94 rfl Try.ntmps94 rfl (fun F hF => ?_)
  unfold m_spec_l02Least at hm
  refine T_seq ?_
  refine T_region ?_
  refine TL_pure rfl rfl rfl rfl (op_assign rfl) ?_
  refine TL_pure rfl rfl rfl rfl (op_assign rfl) ?_
  refine TL_nil ?_
  refine T_seq ?_
  refine T_region ?_
  obtain ⟨k11, hk11, hm⟩ := bindS hm
  refine TL_make 11 (n := k11) el26 z2 rfl rfl rfl rfl rfl rfl (makeI_spec hk11).1 (makeI_spec hk11).1 (makeI_spec hk11).2 rfl rfl rfl rfl ?_
  refine TL_nils 11 (List.map a_i64 (List.replicate k11 (0 : Int))) (by rw [hF]; rfl) rfl (ElR.rep (z := .int .i64 (0 : Int)) (g := a_i64) (x := (0 : Int)) ⟨⟨rfl, rfl⟩, trivial⟩ k11) rfl ?_
  refine TL_pure rfl rfl rfl rfl (op_assign rfl) ?_
  refine TL_nil ?_
  refine T_seq ?_
  refine T_seq ?_
  refine T_region ?_
  refine TL_pure rfl rfl rfl rfl (op_assign rfl) ?_
  refine TL_nil ?_
  refine T_block ?_
  refine T_keepH [0, 1, 2, 8, 9] [11] rfl rfl rfl rfl (by rw [hF]; rfl) ?_
  refine T_loop ?_
  obtain ⟨u0, hl0, hm⟩ := bindS hm
  refine TR_iter2 (m_spec_l02Least_L0 p1 p2) (fun (s0 : (List Int) × Int) => ⟨[(0, .cp [.sl 2 (List.map a_Term p0.Facts), .int .i64 p0.Goal.Const, .sl 1 (List.map a_i64 p0.Goal.Coeffs)]), (1, .sl 1 (List.map a_i64 p1)), (2, .int .i64 p2), (8, .ow 11), (9, .int .i64 s0.2)], [(11, .arr ⟨false, false⟩ 1 2 (List.map a_i64 s0.1))]⟩) (fun u0 => .exit 0) (fun u0 => ⟨[(0, .cp [.sl 2 (List.map a_Term p0.Facts), .int .i64 p0.Goal.Const, .sl 1 (List.map a_i64 p0.Goal.Coeffs)]), (1, .sl 1 (List.map a_i64 p1)), (2, .int .i64 p2), (8, .ow 11)], [(11, .arr ⟨false, false⟩ 1 2 (List.map a_i64 u0))]⟩) (fun u0 => m_spec_l02Least_A0 p0 p1 p2 u0 = some out) hl0 hm (fun u0 hm => ?_) (fun hx0 s0 c0 hm hc0 => ?_)
  · unfold m_spec_l02Least_A0 at hm
    refine T_block ?_
    refine T_keepH [0, 1, 2, 8] [11] rfl rfl rfl rfl (by rw [hF]; rfl) ?_
    refine T_loop ?_
    obtain ⟨u1, hl1, hm⟩ := bindS hm
    refine TR_iter2 (m_spec_l02Least_L1 p0 p1 p2) (fun (s1 : List Int) => ⟨[(0, .cp [.sl 2 (List.map a_Term p0.Facts), .int .i64 p0.Goal.Const, .sl 1 (List.map a_i64 p0.Goal.Coeffs)]), (1, .sl 1 (List.map a_i64 p1)), (2, .int .i64 p2), (8, .ow 11)], [(11, .arr ⟨false, false⟩ 1 2 (List.map a_i64 s1))]⟩) (fun u1 => .ret) (fun u1 => ⟨[(6, .ow 1000), (7, .bool u1.2)], [(1000, .arr ⟨false, true⟩ 1 2 (List.map a_i64 u1.1))]⟩) (fun u1 => m_spec_l02Least_A1 u1 = some out) hl1 hm (fun u1 hm => ?_) (fun hx1 s1 c1 hm hc1 => ?_)
    · unfold m_spec_l02Least_A1 at hm
      obtain rfl := someI hm
      refine ⟨[_, _], [1000], ⟨rfl, rfl, trivial⟩, ?_, rfl, rfl, rfl, rfl⟩
      rfl
    · unfold m_spec_l02Least_L1 at hm
      refine T_block ?_
      refine T_seq ?_
      refine T_seq ?_
      refine T_region ?_
      refine TL_pure rfl rfl rfl rfl (op_move rfl) ?_
      refine TL_pure rfl rfl rfl rfl (op_move rfl) ?_
      obtain ⟨r28, hr28, hm⟩ := bindS hm
      refine TL_callF (ACall.F (F := F) (c_spec_l02Counter p0 s1 r28 hr28)) Try.call117 rfl rfl rfl rfl rfl ?_
      refine TL_nil ?_
      refine T_cond rfl (fun hq => ?_) (fun hq => ?_)
      · replace hm := condT hq hm
        refine T_seq ?_
        refine T_region ?_
        refine TL_pure rfl rfl rfl rfl (op_move rfl) ?_
        refine TL_pure rfl rfl rfl rfl (op_assign rfl) ?_
        refine TL_pure rfl rfl rfl rfl (op_assign rfl) ?_
        refine TL_nil ?_
        refine T_keepH [6, 7] [11] rfl rfl rfl rfl (by rw [hF]; rfl) ?_
        refine T_deepen 11 (p' := false) (List.map a_i64 s1) (by rw [hF]; rfl) rfl (ElR.map (f := a_i64) (g := a_i64) (fun _ => ⟨⟨rfl, rfl⟩, trivial⟩) s1) rfl rfl rfl ?_
        refine T_ren [(11, 1000)] rfl rfl rfl (by rw [hF]; rfl) ?_
        refine T_ret ?_
        obtain rfl := someI hm
        have hn := CtlOK_out hc1
        exact hx1 (s1, true) hn
      · replace hm := condF hq hm
        refine T_skip ?_
        refine T_seq ?_
        refine T_region ?_
        refine TL_pure rfl rfl rfl rfl (op_move rfl) ?_
        refine TL_pure rfl rfl rfl rfl (op_lenT Try.underlying26 rfl (List.length_map _)) ?_
        refine TL_fact (fun _ _ _ hr => RelP.slLen (i := 30) rfl hr) (fun hlen31 => ?_)
        rw [List.length_map] at hlen31
        refine TL_pure rfl rfl rfl rfl (op_subW rfl rfl) ?_
        refine TL_pure rfl rfl rfl rfl (op_assign rfl) ?_
        refine TL_nil ?_
        refine T_seq ?_
        refine T_block ?_
        refine T_keepH [0, 1, 2, 8, 10] [11] rfl rfl rfl rfl (by rw [hF]; rfl) ?_
        refine T_loop ?_
        obtain ⟨u2, hl2, hm⟩ := bindS hm
        refine TR_iter2 (m_spec_l02Least_L2 p1 p2) (fun (s2 : (List Int) × Int) => ⟨[(0, .cp [.sl 2 (List.map a_Term p0.Facts), .int .i64 p0.Goal.Const, .sl 1 (List.map a_i64 p0.Goal.Coeffs)]), (1, .sl 1 (List.map a_i64 p1)), (2, .int .i64 p2), (8, .ow 11), (10, .int .i64 s2.2)], [(11, .arr ⟨false, false⟩ 1 2 (List.map a_i64 s2.1))]⟩) (fun u2 => .exit 4) (fun u2 => ⟨[(0, .cp [.sl 2 (List.map a_Term p0.Facts), .int .i64 p0.Goal.Const, .sl 1 (List.map a_i64 p0.Goal.Coeffs)]), (1, .sl 1 (List.map a_i64 p1)), (2, .int .i64 p2), (8, .ow 11), (10, .int .i64 u2.2)], [(11, .arr ⟨false, false⟩ 1 2 (List.map a_i64 u2.1))]⟩) (fun u2 => m_spec_l02Least_A2 p1 u2 = some c1) hl2 hm (fun u2 hm => ?_) (fun hx2 s2 c2 hm hc2 => ?_)
        · unfold m_spec_l02Least_A2 at hm
          refine T_seq ?_
          refine T_seq ?_
          refine T_region ?_
          refine TL_pure rfl rfl rfl rfl (op_move rfl) ?_
          refine TL_pure rfl rfl rfl rfl (op_lss rfl rfl) ?_
          refine TL_nil ?_
          refine T_cond rfl (fun hq => ?_) (fun hq => ?_)
          · replace hm := condT hq hm
            refine T_seq ?_
            refine T_region ?_
            refine TL_pure rfl rfl rfl rfl (op_assign rfl) ?_
            refine TL_pure rfl rfl rfl rfl (op_assign rfl) ?_
            refine TL_nil ?_
            refine T_ownNil 6 12 ⟨false, true⟩ 2 rfl rfl (sz := 1) rfl rfl rfl ?_
            refine T_keepH [6, 7] [12] rfl rfl rfl rfl (by rw [hF]; rfl) ?_
            refine T_ren [(12, 1000)] rfl rfl rfl (by rw [hF]; rfl) ?_
            refine T_ret ?_
            obtain rfl := someI hm
            have hn := CtlOK_out hc1
            exact hx1 (([] : List Int), false) hn
          · replace hm := condF hq hm
            refine T_skip ?_
            refine T_region ?_
            refine TL_pure rfl rfl rfl rfl (op_move rfl) ?_
            refine TL_pure rfl rfl rfl rfl (op_move rfl) ?_
            refine TL_pure rfl rfl rfl rfl (op_move rfl) ?_
            obtain ⟨x61, hx61, hm⟩ := bindS hm
            refine TL_pure rfl rfl rfl rfl (op_indexT el26 rfl rfl hx61 rfl) ?_
            refine TL_pure rfl rfl rfl rfl (op_load_one ag2 rfl rfl) ?_
            obtain ⟨x63, hx63, hm⟩ := bindS hm
            refine TL_pure rfl rfl rfl rfl (op_indexO el26 rfl rfl rfl hx63) ?_
            refine TL_pure rfl rfl rfl rfl (op_loadT1 ag2 rfl rfl ((getI_spec hx63).2) rfl rfl) ?_
            refine TL_pure rfl rfl rfl rfl (op_addW rfl rfl) ?_
            refine TL_pure rfl rfl rfl rfl (op_indexO el26 rfl rfl rfl hx63) ?_
            refine TL_storeT sz2 rfl rfl ((getI_spec hx63).2) (v' := (w64 (x63 + (1 : Int)))) rfl rfl rfl rfl rfl rfl rfl rfl rfl rfl ?_
            refine TL_nil ?_
            refine TR_keepH [0, 1, 2, 8] [11] rfl rfl rfl rfl (by rw [hF]; rfl) ?_
            obtain rfl := someI hm
            have hn := CtlOK_next hc1
            exact hn _ rfl
        · unfold m_spec_l02Least_L2 at hm
          refine T_seq ?_
          refine T_seq ?_
          refine T_region ?_
          refine TL_pure rfl rfl rfl rfl (op_move rfl) ?_
          refine TL_pure rfl rfl rfl rfl (op_geq rfl rfl) ?_
          refine TL_pure rfl rfl rfl rfl (op_move rfl) ?_
          refine TL_split 35 rfl rfl rfl (fun hq => ?_) (fun hq => ?_)
          · replace hm := condT hq hm
            refine TL_want rfl rfl ?_
            refine TL_pure rfl rfl rfl rfl (op_move rfl) ?_
            refine TL_want rfl rfl ?_
            refine TL_pure rfl rfl rfl rfl (op_move rfl) ?_
            refine TL_want rfl rfl ?_
            refine TL_pure rfl rfl rfl rfl (op_move rfl) ?_
            refine TL_want rfl rfl ?_
            obtain ⟨x39, hx39, hm⟩ := bindS hm
            refine TL_pure rfl rfl rfl rfl (op_indexT el26 rfl rfl hx39 rfl) ?_
            refine TL_want rfl rfl ?_
            refine TL_pure rfl rfl rfl rfl (op_load_one ag2 rfl rfl) ?_
            refine TL_want rfl rfl ?_
            obtain ⟨x41, hx41, hm⟩ := bindS hm
            refine TL_pure rfl rfl rfl rfl (op_indexO el26 rfl rfl rfl hx41) ?_
            refine TL_want rfl rfl ?_
            refine TL_pure rfl rfl rfl rfl (op_loadT1 ag2 rfl rfl ((getI_spec hx41).2) rfl rfl) ?_
            refine TL_want rfl rfl ?_
            refine TL_pure rfl rfl rfl rfl (op_move rfl) ?_
            refine TL_want rfl rfl ?_
            refine TL_pure rfl rfl rfl rfl (op_eql rfl rfl) ?_
            refine TL_pure rfl rfl rfl rfl (op_pick_true rfl rfl) ?_
            refine TL_nil ?_
            refine T_cond rfl (fun hq => ?_) (fun hq => ?_)
            · replace hm := condT hq hm
              refine T_skip ?_
              refine T_block ?_
              refine T_seq ?_
              refine T_region ?_
              refine TL_pure rfl rfl rfl rfl (op_move rfl) ?_
              refine TL_pure rfl rfl rfl rfl (op_move rfl) ?_
              refine TL_pure rfl rfl rfl rfl (op_move rfl) ?_
              refine TL_pure rfl rfl rfl rfl (op_indexT el26 rfl rfl hx39 rfl) ?_
              refine TL_pure rfl rfl rfl rfl (op_load_one ag2 rfl rfl) ?_
              refine TL_pure rfl rfl rfl rfl (op_move rfl) ?_
              refine TL_pure rfl rfl rfl rfl (op_negW rfl) ?_
              refine TL_pure rfl rfl rfl rfl (op_indexO el26 rfl rfl rfl hx41) ?_
              refine TL_storeT sz2 rfl rfl ((getI_spec hx41).2) (v' := (w64 (0 - p2))) rfl rfl rfl rfl rfl rfl rfl rfl rfl rfl ?_
              refine TL_nil ?_
              refine T_region ?_
              refine TL_pure rfl rfl rfl rfl (op_move rfl) ?_
              refine TL_pure rfl rfl rfl rfl (op_subW rfl rfl) ?_
              refine TL_pure rfl rfl rfl rfl (op_assign rfl) ?_
              refine TL_nil ?_
              refine TR_keepH [0, 1, 2, 8, 10] [11] rfl rfl rfl rfl (by rw [hF]; rfl) ?_
              obtain rfl := someI hm
              have hn := CtlOK_next hc2
              exact hn _ rfl
            · replace hm := condF hq hm
              refine T_keepH [0, 1, 2, 8, 10] [11] rfl rfl rfl rfl (by rw [hF]; rfl) ?_
              refine T_exit ?_
              obtain rfl := someI hm
              have hn := CtlOK_out hc2
              exact hx2 (s2.1, s2.2) hn
          · replace hm := condF hq hm
            refine TL_pass rfl rfl rfl rfl rfl rfl rfl ?_
            refine TL_pass rfl rfl rfl rfl rfl rfl rfl ?_
            refine TL_pass rfl rfl rfl rfl rfl rfl rfl ?_
            refine TL_pass rfl rfl rfl rfl rfl rfl rfl ?_
            refine TL_pass rfl rfl rfl rfl rfl rfl rfl ?_
            refine TL_pass rfl rfl rfl rfl rfl rfl rfl ?_
            refine TL_pass rfl rfl rfl rfl rfl rfl rfl ?_
            refine TL_pass rfl rfl rfl rfl rfl rfl rfl ?_
            refine TL_pass rfl rfl rfl rfl rfl rfl rfl ?_
            refine TL_pure rfl rfl rfl rfl (op_pick_false rfl rfl) ?_
            refine TL_nil ?_
            refine T_cond_false rfl ?_
            refine T_keepH [0, 1, 2, 8, 10] [11] rfl rfl rfl rfl (by rw [hF]; rfl) ?_
            refine T_exit ?_
            obtain rfl := someI hm
            have hn := CtlOK_out hc2
            exact hx2 (s2.1, s2.2) hn
  · unfold m_spec_l02Least_L0 at hm
    refine T_seq ?_
    refine T_seq ?_
    refine T_region ?_
    refine TL_pure rfl rfl rfl rfl (op_move rfl) ?_
    refine TL_pure rfl rfl rfl rfl (op_move rfl) ?_
    refine TL_pure rfl rfl rfl rfl (op_lenT Try.underlying26 rfl (List.length_map _)) ?_
    refine TL_fact (fun _ _ _ hr => RelP.slLen (i := 13) rfl hr) (fun hlen14 => ?_)
    rw [List.length_map] at hlen14
    refine TL_pure rfl rfl rfl rfl (op_lss rfl rfl) ?_
    refine TL_nil ?_
    refine T_cond rfl (fun hq => ?_) (fun hq => ?_)
    · replace hm := condT hq hm
      refine T_skip ?_
      refine T_seq ?_
      refine T_block ?_
      refine T_region ?_
      refine TL_pure rfl rfl rfl rfl (op_move rfl) ?_
      refine TL_pure rfl rfl rfl rfl (op_move rfl) ?_
      refine TL_pure rfl rfl rfl rfl (op_move rfl) ?_
      obtain ⟨x21, hx21, hm⟩ := bindS hm
      refine TL_pure rfl rfl rfl rfl (op_indexT el26 rfl rfl hx21 rfl) ?_
      refine TL_pure rfl rfl rfl rfl (op_load_one ag2 rfl rfl) ?_
      refine TL_pure rfl rfl rfl rfl (op_move rfl) ?_
      refine TL_pure rfl rfl rfl rfl (op_negW rfl) ?_
      obtain ⟨x25, hx25, hm⟩ := bindS hm
      refine TL_pure rfl rfl rfl rfl (op_indexO el26 rfl rfl rfl hx25) ?_
      refine TL_storeT sz2 rfl rfl ((getI_spec hx25).2) (v' := (w64 (0 - p2))) rfl rfl rfl rfl rfl rfl rfl rfl rfl rfl ?_
      refine TL_nil ?_
      refine T_region ?_
      refine TL_pure rfl rfl rfl rfl (op_move rfl) ?_
      refine TL_pure rfl rfl rfl rfl (op_addW rfl rfl) ?_
      refine TL_pure rfl rfl rfl rfl (op_assign rfl) ?_
      refine TL_nil ?_
      refine TR_keepH [0, 1, 2, 8, 9] [11] rfl rfl rfl rfl (by rw [hF]; rfl) ?_
      obtain rfl := someI hm
      have hn := CtlOK_next hc0
      exact hn _ rfl
    · replace hm := condF hq hm
      refine T_keepH [0, 1, 2, 8] [11] rfl rfl rfl rfl (by rw [hF]; rfl) ?_
      refine T_exit ?_
      obtain rfl := someI hm
      have hn := CtlOK_out hc0
      exact hx0 s0.1 hn
theorem c_spec_LeastCounter (p0 : Sequent) (p1 : Int) (out : (List Int) × Bool) (hm : m_spec_LeastCounter p0 p1 = some out) : ACall Try.prog 42 [.agg [.sl 2 (List.map a_Term p0.Facts), .int .i64 p0.Goal.Const, .sl 1 (List.map a_i64 p0.Goal.Coeffs)], .int .i64 p1] [] (.tup [.ow 1000, .bool out.2]) [(1000, .arr ⟨false, true⟩ 1 2 (List.map a_i64 out.1))] := by
  refine ACall.intro Try.func42 rfl Try.ntmps42 rfl (fun F hF => ?_)
  unfold m_spec_LeastCounter at hm
  refine T_seq ?_
  refine T_region ?_
  refine TL_box 11 rfl rfl rfl rfl rfl rfl rfl ?_
  refine TL_pure rfl rfl rfl rfl (op_assign rfl) ?_
  refine TL_pure rfl rfl rfl rfl (op_assign rfl) ?_
  refine TL_nil ?_
  refine T_seq ?_
  refine T_seq ?_
  refine T_region ?_
  obtain ⟨r7, hr7, hm⟩ := bindS hm
  refine TL_callF (ACall.F (F := F) (c_spec_l02Sequent p0 r7 hr7)) Try.call92 rfl rfl rfl rfl rfl ?_
  refine TL_pure rfl rfl rfl rfl (op_not rfl) ?_
  refine TL_pure rfl rfl rfl rfl (op_move rfl) ?_
  refine TL_split 9 rfl rfl rfl (fun hq => ?_) (fun hq => ?_)
  · replace hm := condT hq hm
    refine TL_pass rfl rfl rfl rfl rfl rfl rfl ?_
    refine TL_pass rfl rfl rfl rfl rfl rfl rfl ?_
    refine TL_pass rfl rfl rfl rfl rfl rfl rfl ?_
    refine TL_pure rfl rfl rfl rfl (op_pick_true rfl rfl) ?_
    refine TL_nil ?_
    refine T_cond_true rfl ?_
    refine T_seq ?_
    refine T_region ?_
    refine TL_pure rfl rfl rfl rfl (op_assign rfl) ?_
    refine TL_pure rfl rfl rfl rfl (op_assign rfl) ?_
    refine TL_nil ?_
    refine T_ownNil 4 12 ⟨false, true⟩ 2 rfl rfl (sz := 1) rfl rfl rfl ?_
    refine T_keepH [4, 5] [12] rfl rfl rfl rfl (by rw [hF]; rfl) ?_
    refine T_ren [(12, 1000)] rfl rfl rfl (by rw [hF]; rfl) ?_
    refine T_ret ?_
    obtain rfl := someI hm
    refine ⟨[_, _], [1000], ⟨rfl, rfl, trivial⟩, ?_, rfl, rfl, rfl, rfl⟩
    rfl
  · replace hm := condF hq hm
    refine TL_want rfl rfl ?_
    refine TL_pure rfl rfl rfl rfl (op_move rfl) ?_
    refine TL_want rfl rfl ?_
    obtain ⟨r11, hr11, hm⟩ := bindS hm
    refine TL_callF (ACall.F (F := F) (c_spec_l00In p1 (0 : Int) (4 : Int) r11 hr11)) Try.call57 rfl rfl rfl rfl rfl ?_
    refine TL_want rfl rfl ?_
    refine TL_pure rfl rfl rfl rfl (op_not rfl) ?_
    refine TL_pure rfl rfl rfl rfl (op_pick_false rfl rfl) ?_
    refine TL_nil ?_
    refine T_cond rfl (fun hq => ?_) (fun hq => ?_)
    · replace hm := condT hq hm
      refine T_seq ?_
      refine T_region ?_
      refine TL_pure rfl rfl rfl rfl (op_assign rfl) ?_
      refine TL_pure rfl rfl rfl rfl (op_assign rfl) ?_
      refine TL_nil ?_
      refine T_ownNil 4 13 ⟨false, true⟩ 2 rfl rfl (sz := 1) rfl rfl rfl ?_
      refine T_keepH [4, 5] [13] rfl rfl rfl rfl (by rw [hF]; rfl) ?_
      refine T_ren [(13, 1000)] rfl rfl rfl (by rw [hF]; rfl) ?_
      refine T_ret ?_
      obtain rfl := someI hm
      refine ⟨[_, _], [1000], ⟨rfl, rfl, trivial⟩, ?_, rfl, rfl, rfl, rfl⟩
      rfl
    · replace hm := condF hq hm
      refine T_skip ?_
      refine T_join (fun (j0 : List Int) => ⟨[(1, .int .i64 p1), (2, .ptr 11 0 0), (6, .ow 654)], [(11, .box [.sl 2 (List.map a_Term p0.Facts), .int .i64 p0.Goal.Const, .sl 1 (List.map a_i64 p0.Goal.Coeffs)]), (654, .arr ⟨false, true⟩ 1 2 (List.map a_i64 j0))]⟩) (fun j0 => m_spec_LeastCounter_J0 p0 p1 j0 = some out) (fun j0 hm => ?_) (fun hj0 => ?_)
      · unfold m_spec_LeastCounter_J0 at hm
        refine T_seq ?_
        refine T_seq ?_
        refine T_region ?_
        refine TL_pure rfl rfl rfl rfl (op_move rfl) ?_
        refine TL_pure rfl rfl rfl rfl (op_lenO Try.underlying26 rfl rfl (List.length_map _)) ?_
        refine TL_fact (fun _ _ _ hr => RelP.owLen (id := 654) rfl hr) (fun hlen23 => ?_)
        rw [List.length_map] at hlen23
        refine TL_pure rfl rfl rfl rfl (op_gtr rfl rfl) ?_
        refine TL_nil ?_
        refine T_cond rfl (fun hq => ?_) (fun hq => ?_)
        · replace hm := condT hq hm
          refine T_seq ?_
          refine T_region ?_
          refine TL_pure rfl rfl rfl rfl (op_assign rfl) ?_
          refine TL_pure rfl rfl rfl rfl (op_assign rfl) ?_
          refine TL_nil ?_
          refine T_ownNil 4 734 ⟨false, true⟩ 2 rfl rfl (sz := 1) rfl rfl rfl ?_
          refine T_keepH [4, 5] [734] rfl rfl rfl rfl (by rw [hF]; rfl) ?_
          refine T_ren [(734, 1000)] rfl rfl rfl (by rw [hF]; rfl) ?_
          refine T_ret ?_
          obtain rfl := someI hm
          refine ⟨[_, _], [1000], ⟨rfl, rfl, trivial⟩, ?_, rfl, rfl, rfl, rfl⟩
          rfl
        · replace hm := condF hq hm
          refine T_skip ?_
          refine T_seq ?_
          refine T_region ?_
          refine TL_pure rfl rfl rfl rfl (op_move rfl) ?_
          refine TL_pure rfl rfl rfl rfl (op_move rfl) ?_
          obtain ⟨r27, hr27, hm⟩ := bindS hm
          refine TL_callO [(1000, 735)] (ACall.F (F := F) (c_spec_l02Least p0 j0 p1 r27 hr27)) Try.call94 rfl rfl rfl rfl rfl rfl rfl rfl rfl rfl rfl rfl rfl ?_
          refine TL_pure rfl rfl rfl rfl (op_extract rfl rfl) ?_
          refine TL_pure rfl rfl rfl rfl (op_extract rfl rfl) ?_
          refine TL_pure rfl rfl rfl rfl (op_assign rfl) ?_
          refine TL_pure rfl rfl rfl rfl (op_assign rfl) ?_
          refine TL_nil ?_
          refine T_keepH [4, 5] [735] rfl rfl rfl rfl (by rw [hF]; rfl) ?_
          refine T_ren [(735, 1000)] rfl rfl rfl (by rw [hF]; rfl) ?_
          refine T_ret ?_
          obtain rfl := someI hm
          refine ⟨[_, _], [1000], ⟨rfl, rfl, trivial⟩, ?_, rfl, rfl, rfl, rfl⟩
          rfl
      · refine T_drawZ [5, 6] mix (by kernel_rfl) rfl ?_
        obtain ⟨r16, hr16, hm⟩ := bindS hm
        obtain ⟨q20, hq20, hm⟩ := bindS hm
        obtain ⟨r21, hr21, hm⟩ := bindS hm
        refine TZ_pure 0 (by kernel_rfl) rfl rfl rfl rfl rfl (op_fieldAddr fa54_0 rfl rfl) ?_
        refine TZ_pure 3 (by kernel_rfl) rfl rfl rfl rfl rfl (op_fieldAddr fa54_1 rfl rfl) ?_
        refine TZ_cut 5 [true, true, true, true, false, false, false, false, false] ⟨[(0, .agg [.sl 2 (List.map a_Term p0.Facts), .int .i64 p0.Goal.Const, .sl 1 (List.map a_i64 p0.Goal.Coeffs)]), (1, .int .i64 p1), (2, .ptr 11 0 0), (4, .snil), (5, .bool false), (7, .bool r7), (8, .bool (!r7)), (9, .bool false), (10, .int .i64 p1), (11, .bool r11), (12, .bool (!r11)), (13, .bool (!r11)), (14, .ptr 11 0 0), (15, .sl 2 (List.map a_Term p0.Facts)), (16, .ow 976), (17, .ptr 11 0 1)], [(11, .box [.sl 2 (List.map a_Term p0.Facts), .int .i64 p0.Goal.Const, .sl 1 (List.map a_i64 p0.Goal.Coeffs)]), (976, .arr ⟨false, false⟩ 2 41 (List.map a_Term r16))]⟩ ?_ (fun hS735_0 => ?_)
        · refine TZ_one 4 (by kernel_rfl) rfl ?_
          refine TL_pure rfl rfl rfl rfl (op_load_agg ag41 sz41 rfl rfl rfl) ?_
          refine TL_nil ?_
          refine TZ_one 5 (by kernel_rfl) rfl ?_
          refine TL_buildSlice 1216 (es := List.map a_Term [p0.Goal]) el24 z41 rfl rfl rfl rfl rfl rfl rfl rfl rfl ?_
          refine TL_nil ?_
          refine TZ_one 6 (by kernel_rfl) rfl ?_
          refine TL_appendT (f := a_Term) (a := r16) (b := [p0.Goal]) el24 z41 rfl rfl rfl rfl rfl rfl rfl (capI_spec hq20) rfl rfl rfl rfl rfl ?_
          refine TL_nil ?_
          refine TZ_one 7 (by kernel_rfl) rfl ?_
          refine TL_callO [(1000, 1376)] (ACall.F (F := F) (c_spec_l02Symbols (r16 ++ [p0.Goal]) r21 hr21)) Try.call93 rfl rfl rfl rfl rfl rfl rfl rfl rfl rfl rfl rfl rfl ?_
          refine TL_nil ?_
          refine TZ_pure 8 (by kernel_rfl) rfl rfl rfl rfl rfl (op_assign rfl) ?_
          refine TZ_done (by kernel_rfl) ?_
          refine T_keepH [1, 2, 6] [11, 1376] rfl rfl rfl rfl (by rw [hF]; rfl) ?_
          refine T_ren [(11, 11), (1376, 654)] rfl rfl rfl (by rw [hF]; rfl) ?_
          exact hj0 r21 hm
        refine TZ_cut 4 [true, true, true, true, true, false, false, false, false] ⟨[(0, .agg [.sl 2 (List.map a_Term p0.Facts), .int .i64 p0.Goal.Const, .sl 1 (List.map a_i64 p0.Goal.Coeffs)]), (1, .int .i64 p1), (2, .ptr 11 0 0), (4, .snil), (5, .bool false), (7, .bool r7), (8, .bool (!r7)), (9, .bool false), (10, .int .i64 p1), (11, .bool r11), (12, .bool (!r11)), (13, .bool (!r11)), (14, .ptr 11 0 0), (15, .sl 2 (List.map a_Term p0.Facts)), (16, .ow 976), (17, .ptr 11 0 1), (18, .agg [.int .i64 p0.Goal.Const, .sl 1 (List.map a_i64 p0.Goal.Coeffs)])], [(11, .box [.sl 2 (List.map a_Term p0.Facts), .int .i64 p0.Goal.Const, .sl 1 (List.map a_i64 p0.Goal.Coeffs)]), (976, .arr ⟨false, false⟩ 2 41 (List.map a_Term r16))]⟩ ?_ (fun hS735_1 => ?_)
        · refine TZ_one 5 (by kernel_rfl) rfl ?_
          refine TL_buildSlice 1216 (es := List.map a_Term [p0.Goal]) el24 z41 rfl rfl rfl rfl rfl rfl rfl rfl rfl ?_
          refine TL_nil ?_
          refine TZ_one 6 (by kernel_rfl) rfl ?_
          refine TL_appendT (f := a_Term) (a := r16) (b := [p0.Goal]) el24 z41 rfl rfl rfl rfl rfl rfl rfl (capI_spec hq20) rfl rfl rfl rfl rfl ?_
          refine TL_nil ?_
          refine TZ_one 7 (by kernel_rfl) rfl ?_
          refine TL_callO [(1000, 1376)] (ACall.F (F := F) (c_spec_l02Symbols (r16 ++ [p0.Goal]) r21 hr21)) Try.call93 rfl rfl rfl rfl rfl rfl rfl rfl rfl rfl rfl rfl rfl ?_
          refine TL_nil ?_
          refine TZ_pure 8 (by kernel_rfl) rfl rfl rfl rfl rfl (op_assign rfl) ?_
          refine TZ_done (by kernel_rfl) ?_
          refine T_keepH [1, 2, 6] [11, 1376] rfl rfl rfl rfl (by rw [hF]; rfl) ?_
          refine T_ren [(11, 11), (1376, 654)] rfl rfl rfl (by rw [hF]; rfl) ?_
          exact hj0 r21 hm
        refine TZ_cut 4 [true, true, false, true, true, true, false, false, false] ⟨[(0, .agg [.sl 2 (List.map a_Term p0.Facts), .int .i64 p0.Goal.Const, .sl 1 (List.map a_i64 p0.Goal.Coeffs)]), (1, .int .i64 p1), (2, .ptr 11 0 0), (4, .snil), (5, .bool false), (7, .bool r7), (8, .bool (!r7)), (9, .bool false), (10, .int .i64 p1), (11, .bool r11), (12, .bool (!r11)), (13, .bool (!r11)), (14, .ptr 11 0 0), (15, .sl 2 (List.map a_Term p0.Facts)), (17, .ptr 11 0 1), (18, .agg [.int .i64 p0.Goal.Const, .sl 1 (List.map a_i64 p0.Goal.Coeffs)]), (19, .ow 1216)], [(11, .box [.sl 2 (List.map a_Term p0.Facts), .int .i64 p0.Goal.Const, .sl 1 (List.map a_i64 p0.Goal.Coeffs)]), (1216, .arr ⟨false, false⟩ 2 41 (List.map a_Term [p0.Goal]))]⟩ ?_ (fun hS735_2 => ?_)
        · refine TZ_one 2 (by kernel_rfl) rfl ?_
          refine TL_callO [(1000, 976)] (ACall.F (F := F) (c_spec_l02OwnAll p0.Facts r16 hr16)) Try.call75 rfl rfl rfl rfl rfl rfl rfl rfl rfl rfl rfl rfl rfl ?_
          refine TL_shallow 976 (by rw [hF]; rfl) rfl rfl rfl rfl ?_
          refine TL_nil ?_
          refine TZ_one 6 (by kernel_rfl) rfl ?_
          refine TL_appendT (f := a_Term) (a := r16) (b := [p0.Goal]) el24 z41 rfl rfl rfl rfl rfl rfl rfl (capI_spec hq20) rfl rfl rfl rfl rfl ?_
          refine TL_nil ?_
          refine TZ_one 7 (by kernel_rfl) rfl ?_
          refine TL_callO [(1000, 1376)] (ACall.F (F := F) (c_spec_l02Symbols (r16 ++ [p0.Goal]) r21 hr21)) Try.call93 rfl rfl rfl rfl rfl rfl rfl rfl rfl rfl rfl rfl rfl ?_
          refine TL_nil ?_
          refine TZ_pure 8 (by kernel_rfl) rfl rfl rfl rfl rfl (op_assign rfl) ?_
          refine TZ_done (by kernel_rfl) ?_
          refine T_keepH [1, 2, 6] [11, 1376] rfl rfl rfl rfl (by rw [hF]; rfl) ?_
          refine T_ren [(11, 11), (1376, 654)] rfl rfl rfl (by rw [hF]; rfl) ?_
          exact hj0 r21 hm
        refine TZ_cut 5 [true, true, false, true, true, false, false, false, false] ⟨[(0, .agg [.sl 2 (List.map a_Term p0.Facts), .int .i64 p0.Goal.Const, .sl 1 (List.map a_i64 p0.Goal.Coeffs)]), (1, .int .i64 p1), (2, .ptr 11 0 0), (4, .snil), (5, .bool false), (7, .bool r7), (8, .bool (!r7)), (9, .bool false), (10, .int .i64 p1), (11, .bool r11), (12, .bool (!r11)), (13, .bool (!r11)), (14, .ptr 11 0 0), (15, .sl 2 (List.map a_Term p0.Facts)), (17, .ptr 11 0 1), (18, .agg [.int .i64 p0.Goal.Const, .sl 1 (List.map a_i64 p0.Goal.Coeffs)])], [(11, .box [.sl 2 (List.map a_Term p0.Facts), .int .i64 p0.Goal.Const, .sl 1 (List.map a_i64 p0.Goal.Coeffs)])]⟩ ?_ (fun hS735_3 => ?_)
        · refine TZ_each [2, 5] (by kernel_rfl) rfl ?_
          refine ⟨?_, ?_⟩
          · refine ⟨_, rfl, ?_⟩
            refine TL_callO [(1000, 976)] (ACall.F (F := F) (c_spec_l02OwnAll p0.Facts r16 hr16)) Try.call75 rfl rfl rfl rfl rfl rfl rfl rfl rfl rfl rfl rfl rfl ?_
            refine TL_shallow 976 (by rw [hF]; rfl) rfl rfl rfl rfl ?_
            refine TL_nil ?_
            refine TZ_keepH [0, 1, 2, 4, 5, 7, 8, 9, 10, 11, 12, 13, 14, 15, 16, 17, 18] [11, 976] rfl rfl rfl rfl (by rw [hF]; rfl) ?_
            exact hS735_1
          · refine ⟨_, rfl, ?_⟩
            refine TL_buildSlice 1216 (es := List.map a_Term [p0.Goal]) el24 z41 rfl rfl rfl rfl rfl rfl rfl rfl rfl ?_
            refine TL_nil ?_
            refine TZ_keepH [0, 1, 2, 4, 5, 7, 8, 9, 10, 11, 12, 13, 14, 15, 17, 18, 19] [11, 1216] rfl rfl rfl rfl (by rw [hF]; rfl) ?_
            exact hS735_2
        refine TZ_cut 6 [true, true, false, true, false, false, false, false, false] ⟨[(0, .agg [.sl 2 (List.map a_Term p0.Facts), .int .i64 p0.Goal.Const, .sl 1 (List.map a_i64 p0.Goal.Coeffs)]), (1, .int .i64 p1), (2, .ptr 11 0 0), (4, .snil), (5, .bool false), (7, .bool r7), (8, .bool (!r7)), (9, .bool false), (10, .int .i64 p1), (11, .bool r11), (12, .bool (!r11)), (13, .bool (!r11)), (14, .ptr 11 0 0), (15, .sl 2 (List.map a_Term p0.Facts)), (17, .ptr 11 0 1)], [(11, .box [.sl 2 (List.map a_Term p0.Facts), .int .i64 p0.Goal.Const, .sl 1 (List.map a_i64 p0.Goal.Coeffs)])]⟩ ?_ (fun hS735_4 => ?_)
        · refine TZ_each [2, 4] (by kernel_rfl) rfl ?_
          refine ⟨?_, ?_⟩
          · refine ⟨_, rfl, ?_⟩
            refine TL_callO [(1000, 976)] (ACall.F (F := F) (c_spec_l02OwnAll p0.Facts r16 hr16)) Try.call75 rfl rfl rfl rfl rfl rfl rfl rfl rfl rfl rfl rfl rfl ?_
            refine TL_shallow 976 (by rw [hF]; rfl) rfl rfl rfl rfl ?_
            refine TL_nil ?_
            refine TZ_keepH [0, 1, 2, 4, 5, 7, 8, 9, 10, 11, 12, 13, 14, 15, 16, 17] [11, 976] rfl rfl rfl rfl (by rw [hF]; rfl) ?_
            exact hS735_0
          · refine ⟨_, rfl, ?_⟩
            refine TL_pure rfl rfl rfl rfl (op_load_agg ag41 sz41 rfl rfl rfl) ?_
            refine TL_nil ?_
            refine TZ_keepH [0, 1, 2, 4, 5, 7, 8, 9, 10, 11, 12, 13, 14, 15, 17, 18] [11] rfl rfl rfl rfl (by rw [hF]; rfl) ?_
            exact hS735_3
        refine TZ_cut 5 [true, false, false, true, true, true, false, false, false] ⟨[(0, .agg [.sl 2 (List.map a_Term p0.Facts), .int .i64 p0.Goal.Const, .sl 1 (List.map a_i64 p0.Goal.Coeffs)]), (1, .int .i64 p1), (2, .ptr 11 0 0), (4, .snil), (5, .bool false), (7, .bool r7), (8, .bool (!r7)), (9, .bool false), (10, .int .i64 p1), (11, .bool r11), (12, .bool (!r11)), (13, .bool (!r11)), (14, .ptr 11 0 0), (17, .ptr 11 0 1), (18, .agg [.int .i64 p0.Goal.Const, .sl 1 (List.map a_i64 p0.Goal.Coeffs)]), (19, .ow 1216)], [(11, .box [.sl 2 (List.map a_Term p0.Facts), .int .i64 p0.Goal.Const, .sl 1 (List.map a_i64 p0.Goal.Coeffs)]), (1216, .arr ⟨false, false⟩ 2 41 (List.map a_Term [p0.Goal]))]⟩ ?_ (fun hS735_5 => ?_)
        · refine TZ_one 1 (by kernel_rfl) rfl ?_
          refine TL_pure rfl rfl rfl rfl (op_load_one ag24 rfl rfl) ?_
          refine TL_nil ?_
          refine TZ_one 2 (by kernel_rfl) rfl ?_
          refine TL_callO [(1000, 976)] (ACall.F (F := F) (c_spec_l02OwnAll p0.Facts r16 hr16)) Try.call75 rfl rfl rfl rfl rfl rfl rfl rfl rfl rfl rfl rfl rfl ?_
          refine TL_shallow 976 (by rw [hF]; rfl) rfl rfl rfl rfl ?_
          refine TL_nil ?_
          refine TZ_one 6 (by kernel_rfl) rfl ?_
          refine TL_appendT (f := a_Term) (a := r16) (b := [p0.Goal]) el24 z41 rfl rfl rfl rfl rfl rfl rfl (capI_spec hq20) rfl rfl rfl rfl rfl ?_
          refine TL_nil ?_
          refine TZ_one 7 (by kernel_rfl) rfl ?_
          refine TL_callO [(1000, 1376)] (ACall.F (F := F) (c_spec_l02Symbols (r16 ++ [p0.Goal]) r21 hr21)) Try.call93 rfl rfl rfl rfl rfl rfl rfl rfl rfl rfl rfl rfl rfl ?_
          refine TL_nil ?_
          refine TZ_pure 8 (by kernel_rfl) rfl rfl rfl rfl rfl (op_assign rfl) ?_
          refine TZ_done (by kernel_rfl) ?_
          refine T_keepH [1, 2, 6] [11, 1376] rfl rfl rfl rfl (by rw [hF]; rfl) ?_
          refine T_ren [(11, 11), (1376, 654)] rfl rfl rfl (by rw [hF]; rfl) ?_
          exact hj0 r21 hm
        refine TZ_cut 6 [true, false, false, true, true, false, false, false, false] ⟨[(0, .agg [.sl 2 (List.map a_Term p0.Facts), .int .i64 p0.Goal.Const, .sl 1 (List.map a_i64 p0.Goal.Coeffs)]), (1, .int .i64 p1), (2, .ptr 11 0 0), (4, .snil), (5, .bool false), (7, .bool r7), (8, .bool (!r7)), (9, .bool false), (10, .int .i64 p1), (11, .bool r11), (12, .bool (!r11)), (13, .bool (!r11)), (14, .ptr 11 0 0), (17, .ptr 11 0 1), (18, .agg [.int .i64 p0.Goal.Const, .sl 1 (List.map a_i64 p0.Goal.Coeffs)])], [(11, .box [.sl 2 (List.map a_Term p0.Facts), .int .i64 p0.Goal.Const, .sl 1 (List.map a_i64 p0.Goal.Coeffs)])]⟩ ?_ (fun hS735_6 => ?_)
        · refine TZ_each [1, 5] (by kernel_rfl) rfl ?_
          refine ⟨?_, ?_⟩
          · refine ⟨_, rfl, ?_⟩
            refine TL_pure rfl rfl rfl rfl (op_load_one ag24 rfl rfl) ?_
            refine TL_nil ?_
            refine TZ_keepH [0, 1, 2, 4, 5, 7, 8, 9, 10, 11, 12, 13, 14, 15, 17, 18] [11] rfl rfl rfl rfl (by rw [hF]; rfl) ?_
            exact hS735_3
          · refine ⟨_, rfl, ?_⟩
            refine TL_buildSlice 1216 (es := List.map a_Term [p0.Goal]) el24 z41 rfl rfl rfl rfl rfl rfl rfl rfl rfl ?_
            refine TL_nil ?_
            refine TZ_keepH [0, 1, 2, 4, 5, 7, 8, 9, 10, 11, 12, 13, 14, 17, 18, 19] [11, 1216] rfl rfl rfl rfl (by rw [hF]; rfl) ?_
            exact hS735_5
        refine TZ_each [1, 4] (by kernel_rfl) rfl ?_
        refine ⟨?_, ?_⟩
        · refine ⟨_, rfl, ?_⟩
          refine TL_pure rfl rfl rfl rfl (op_load_one ag24 rfl rfl) ?_
          refine TL_nil ?_
          refine TZ_keepH [0, 1, 2, 4, 5, 7, 8, 9, 10, 11, 12, 13, 14, 15, 17] [11] rfl rfl rfl rfl (by rw [hF]; rfl) ?_
          exact hS735_4
        · refine ⟨_, rfl, ?_⟩
          refine TL_pure rfl rfl rfl rfl (op_load_agg ag41 sz41 rfl rfl rfl) ?_
          refine TL_nil ?_
          refine TZ_keepH [0, 1, 2, 4, 5, 7, 8, 9, 10, 11, 12, 13, 14, 17, 18] [11] rfl rfl rfl rfl (by rw [hF]; rfl) ?_
          exact hS735_6
theorem c_laws_FnCounters (p0 : List Int) (p1 : List Int) (out : Bool) (hm : m_laws_FnCounters p0 p1 = some out) : ACall Try.prog 8 [.sl 1 (List.map a_u8 p0), .sl 1 (List.map a_u8 p1)] [] (.bool out) [] := by
  refine ACall.intro Try.func8 rfl Try.ntmps8 rfl (fun F hF => ?_)
  unfold m_laws_FnCounters at hm
  refine T_seq ?_
  refine T_region ?_
  refine TL_pure rfl rfl rfl rfl (op_assign rfl) ?_
  refine TL_nil ?_
  refine T_seq ?_
  refine T_seq ?_
  refine T_region ?_
  refine TL_pure rfl rfl rfl rfl (op_move rfl) ?_
  refine TL_pure rfl rfl rfl rfl (op_move rfl) ?_
  obtain ⟨r17, hr17, hm⟩ := bindS hm
  refine TL_callF (ACall.F (F := F) (c_laws_b10Long p0 p1 r17 hr17)) Try.call9 rfl rfl rfl rfl rfl ?_
  refine TL_nil ?_
  refine T_cond rfl (fun hq => ?_) (fun hq => ?_)
  · replace hm := condT hq hm
    refine T_seq ?_
    refine T_region ?_
    refine TL_pure rfl rfl rfl rfl (op_assign rfl) ?_
    refine TL_nil ?_
    refine T_keepH [4] [] rfl rfl rfl rfl (by rw [hF]; rfl) ?_
    refine T_ret ?_
    obtain rfl := someI hm
    refine ⟨[_], [], ⟨rfl, trivial⟩, ?_, rfl, rfl, rfl, rfl⟩
    rfl
  · replace hm := condF hq hm
    refine T_skip ?_
    refine T_seq ?_
    refine T_region ?_
    refine TL_pure rfl rfl rfl rfl (op_move rfl) ?_
    obtain ⟨r19, hr19, hm⟩ := bindS hm
    refine TL_callO [(1000, 11), (1001, 12)] (ACall.F (F := F) (c_spec_B10Sequent p0 r19 hr19)) Try.call37 rfl rfl rfl rfl rfl rfl rfl rfl rfl rfl rfl rfl rfl ?_
    refine TL_alloc 13 z54 rfl rfl rfl rfl rfl rfl rfl ?_
    refine TL_store_box sz54 rfl rfl rfl rfl rfl rfl rfl rfl rfl ?_
    refine TL_nil ?_
    refine T_seq ?_
    refine T_region ?_
    refine TL_pure rfl rfl rfl rfl (op_move rfl) ?_
    obtain ⟨r21, hr21, hm⟩ := bindS hm
    refine TL_callO [(1000, 14)] (ACall.F (F := F) (c_spec_B10Values p1 r21 hr21)) Try.call11 rfl rfl rfl rfl rfl rfl rfl rfl rfl rfl rfl rfl rfl ?_
    refine TL_pure rfl rfl rfl rfl (op_assign rfl) ?_
    refine TL_nil ?_
    refine T_seq ?_
    refine T_region ?_
    refine TL_pure rfl rfl rfl rfl (op_load_agg ag54 sz54 rfl rfl rfl) ?_
    obtain ⟨r24, hr24, hm⟩ := bindS hm
    refine TL_callO [(1000, 15)] (ACall.F (F := F) (c_impl_ContextOf r19 r24 hr24)) Try.call38 rfl rfl rfl rfl rfl rfl rfl rfl rfl rfl rfl rfl rfl ?_
    refine TL_pure rfl rfl rfl rfl (op_move rfl) ?_
    refine TL_pure rfl rfl rfl rfl (op_extract rfl rfl) ?_
    refine TL_pure rfl rfl rfl rfl (op_extract rfl rfl) ?_
    refine TL_pure rfl rfl rfl rfl (op_assign rfl) ?_
    refine TL_pure rfl rfl rfl rfl (op_assign rfl) ?_
    refine TL_nil ?_
    refine T_seq ?_
    refine T_seq ?_
    refine T_region ?_
    refine TL_pure rfl rfl rfl rfl (op_move rfl) ?_
    refine TL_pure rfl rfl rfl rfl (op_not rfl) ?_
    refine TL_pure rfl rfl rfl rfl (op_move rfl) ?_
    refine TL_join 8 (fun _ : Unit => ⟨[(5, .ptr 13 0 0), (6, .ow 14), (7, .ow 15), (37, .bool ((!r24.2) || (!decide ((r24.1.length : Int) = (w64 ((r19.Facts.length : Int) + (1 : Int)))))))], [(11, .arr ⟨false, true⟩ 2 41 (List.map a_Term r19.Facts)), (12, .arr ⟨false, true⟩ 1 2 (List.map a_i64 r19.Goal.Coeffs)), (13, .box [.ow 11, .int .i64 r19.Goal.Const, .ow 12]), (14, .arr ⟨false, true⟩ 1 2 (List.map a_i64 r21)), (15, .arr ⟨false, true⟩ 2 41 (List.map a_Term r24.1))]⟩) (fun _ => True) (fun _ _ => ?_) (fun hjj => ?_)
    · refine TL_pure rfl rfl rfl rfl (op_move rfl) ?_
      refine TL_split 38 rfl rfl rfl (fun hq => ?_) (fun hq => ?_)
      · replace hm := condT hq hm
        refine TL_pass rfl rfl rfl rfl rfl rfl rfl ?_
        refine TL_pass rfl rfl rfl rfl rfl rfl rfl ?_
        refine TL_pass rfl rfl rfl rfl rfl rfl rfl ?_
        refine TL_pass rfl rfl rfl rfl rfl rfl rfl ?_
        refine TL_pass rfl rfl rfl rfl rfl rfl rfl ?_
        refine TL_pass rfl rfl rfl rfl rfl rfl rfl ?_
        refine TL_pass rfl rfl rfl rfl rfl rfl rfl ?_
        refine TL_pure rfl rfl rfl rfl (op_pick_true rfl rfl) ?_
        refine TL_nil ?_
        refine T_cond_true rfl ?_
        refine T_seq ?_
        refine T_region ?_
        refine TL_pure rfl rfl rfl rfl (op_assign rfl) ?_
        refine TL_nil ?_
        refine T_keepH [4] [] rfl rfl rfl rfl (by rw [hF]; rfl) ?_
        refine T_ret ?_
        obtain rfl := someI hm
        refine ⟨[_], [], ⟨rfl, trivial⟩, ?_, rfl, rfl, rfl, rfl⟩
        rfl
      · replace hm := condF hq hm
        refine TL_want rfl rfl ?_
        refine TL_pure rfl rfl rfl rfl (op_load_agg ag54 sz54 rfl rfl rfl) ?_
        refine TL_want rfl rfl ?_
        refine TL_pure rfl rfl rfl rfl (op_move rfl) ?_
        refine TL_want rfl rfl ?_
        obtain ⟨r41, hr41, hm⟩ := bindS hm
        refine TL_callF (ACall.F (F := F) (c_impl_IsCounter r19 r21 r41 hr41)) Try.call39 rfl rfl rfl rfl rfl ?_
        refine TL_want rfl rfl ?_
        refine TL_pure rfl rfl rfl rfl (op_move rfl) ?_
        refine TL_want rfl rfl ?_
        refine TL_pure rfl rfl rfl rfl (op_move rfl) ?_
        refine TL_want rfl rfl ?_
        obtain ⟨r44, hr44, hm⟩ := bindS hm
        refine TL_callF (ACall.F (F := F) (c_laws_b10Hold r24.1 r21 r44 hr44)) Try.call15 rfl rfl rfl rfl rfl ?_
        refine TL_want rfl rfl ?_
        refine TL_pure rfl rfl rfl rfl (op_neqB Try.underlying4 rfl rfl) ?_
        refine TL_pure rfl rfl rfl rfl (op_pick_false rfl rfl) ?_
        refine TL_nil ?_
        refine T_cond rfl (fun hq => ?_) (fun hq => ?_)
        · replace hm := condT hq hm
          refine T_seq ?_
          refine T_region ?_
          refine TL_pure rfl rfl rfl rfl (op_assign rfl) ?_
          refine TL_nil ?_
          refine T_keepH [4] [] rfl rfl rfl rfl (by rw [hF]; rfl) ?_
          refine T_ret ?_
          obtain rfl := someI hm
          refine ⟨[_], [], ⟨rfl, trivial⟩, ?_, rfl, rfl, rfl, rfl⟩
          rfl
        · replace hm := condF hq hm
          refine T_skip ?_
          refine T_seq ?_
          refine T_region ?_
          refine TL_pure rfl rfl rfl rfl (op_load_agg ag54 sz54 rfl rfl rfl) ?_
          obtain ⟨r49, hr49, hm⟩ := bindS hm
          refine TL_callO [(1000, 16)] (ACall.F (F := F) (c_impl_LeastCounter r19 (2 : Int) r49 hr49)) Try.call40 rfl rfl rfl rfl rfl rfl rfl rfl rfl rfl rfl rfl rfl ?_
          refine TL_pure rfl rfl rfl rfl (op_move rfl) ?_
          refine TL_pure rfl rfl rfl rfl (op_extract rfl rfl) ?_
          refine TL_pure rfl rfl rfl rfl (op_extract rfl rfl) ?_
          refine TL_pure rfl rfl rfl rfl (op_assign rfl) ?_
          refine TL_pure rfl rfl rfl rfl (op_assign rfl) ?_
          refine TL_nil ?_
          refine T_seq ?_
          refine T_region ?_
          refine TL_pure rfl rfl rfl rfl (op_load_agg ag54 sz54 rfl rfl rfl) ?_
          obtain ⟨r54, hr54, hm⟩ := bindS hm
          refine TL_callO [(1000, 17)] (ACall.F (F := F) (c_impl_ProveSequent r19 (60 : Int) r54 hr54)) Try.call41 rfl rfl rfl rfl rfl rfl rfl rfl rfl rfl rfl rfl rfl ?_
          refine TL_pure rfl rfl rfl rfl (op_move rfl) ?_
          refine TL_pure rfl rfl rfl rfl (op_extract rfl rfl) ?_
          refine TL_pure rfl rfl rfl rfl (op_extract rfl rfl) ?_
          refine TL_pure rfl rfl rfl rfl (op_assign rfl) ?_
          refine TL_pure rfl rfl rfl rfl (op_assign rfl) ?_
          refine TL_nil ?_
          refine T_seq ?_
          refine T_seq ?_
          refine T_region ?_
          refine TL_pure rfl rfl rfl rfl (op_load_agg ag54 sz54 rfl rfl rfl) ?_
          refine TL_pure rfl rfl rfl rfl (op_move rfl) ?_
          obtain ⟨r59, hr59, hm⟩ := bindS hm
          refine TL_callF (ACall.F (F := F) (c_impl_IsCounter r19 r21 r59 hr59)) Try.call39 rfl rfl rfl rfl rfl ?_
          refine TL_pure rfl rfl rfl rfl (op_move rfl) ?_
          refine TL_join 2 (fun _ : Unit => ⟨[(5, .ptr 13 0 0), (9, .ow 16), (10, .bool r49.2), (12, .bool r54.2), (62, .bool (r59 && r54.2))], [(11, .arr ⟨false, true⟩ 2 41 (List.map a_Term r19.Facts)), (12, .arr ⟨false, true⟩ 1 2 (List.map a_i64 r19.Goal.Coeffs)), (13, .box [.ow 11, .int .i64 r19.Goal.Const, .ow 12]), (16, .arr ⟨false, true⟩ 1 2 (List.map a_i64 r49.1))]⟩) (fun _ => True) (fun _ _ => ?_) (fun hjj => ?_)
          · refine TL_nil ?_
            refine T_cond rfl (fun hq => ?_) (fun hq => ?_)
            · replace hm := condT hq hm
              refine T_seq ?_
              refine T_region ?_
              refine TL_pure rfl rfl rfl rfl (op_assign rfl) ?_
              refine TL_nil ?_
              refine T_keepH [4] [] rfl rfl rfl rfl (by rw [hF]; rfl) ?_
              refine T_ret ?_
              obtain rfl := someI hm
              refine ⟨[_], [], ⟨rfl, trivial⟩, ?_, rfl, rfl, rfl, rfl⟩
              rfl
            · replace hm := condF hq hm
              refine T_skip ?_
              refine T_seq ?_
              refine T_seq ?_
              refine T_region ?_
              refine TL_pure rfl rfl rfl rfl (op_move rfl) ?_
              refine TL_pure rfl rfl rfl rfl (op_not rfl) ?_
              refine TL_nil ?_
              refine T_cond rfl (fun hq => ?_) (fun hq => ?_)
              · replace hm := condT hq hm
                refine T_seq ?_
                refine T_region ?_
                refine TL_pure rfl rfl rfl rfl (op_load_agg ag54 sz54 rfl rfl rfl) ?_
                obtain ⟨r67, hr67, hm⟩ := bindS hm
                refine TL_callO [(1000, 18)] (ACall.F (F := F) (c_spec_LeastCounter r19 (2 : Int) r67 hr67)) Try.call42 rfl rfl rfl rfl rfl rfl rfl rfl rfl rfl rfl rfl rfl ?_
                refine TL_pure rfl rfl rfl rfl (op_move rfl) ?_
                refine TL_pure rfl rfl rfl rfl (op_extract rfl rfl) ?_
                refine TL_pure rfl rfl rfl rfl (op_extract rfl rfl) ?_
                refine TL_pure rfl rfl rfl rfl (op_assign rfl) ?_
                refine TL_pure rfl rfl rfl rfl (op_assign rfl) ?_
                refine TL_nil ?_
                refine T_seq ?_
                refine T_region ?_
                refine TL_pure rfl rfl rfl rfl (op_move rfl) ?_
                refine TL_pure rfl rfl rfl rfl (op_not rfl) ?_
                refine TL_pure rfl rfl rfl rfl (op_assign rfl) ?_
                refine TL_nil ?_
                refine T_keepH [4] [] rfl rfl rfl rfl (by rw [hF]; rfl) ?_
                refine T_ret ?_
                obtain rfl := someI hm
                refine ⟨[_], [], ⟨rfl, trivial⟩, ?_, rfl, rfl, rfl, rfl⟩
                rfl
              · replace hm := condF hq hm
                refine T_skip ?_
                refine T_seq ?_
                refine T_region ?_
                refine TL_pure rfl rfl rfl rfl (op_move rfl) ?_
                refine TL_pure rfl rfl rfl rfl (op_lenO Try.underlying26 rfl rfl (List.length_map _)) ?_
                refine TL_fact (fun _ _ _ hr => RelP.owLen (id := 16) rfl hr) (fun hlen73 => ?_)
                rw [List.length_map] at hlen73
                refine TL_pure rfl rfl rfl rfl (op_eql rfl rfl) ?_
                refine TL_pure rfl rfl rfl rfl (op_move rfl) ?_
                refine TL_split 75 rfl rfl rfl (fun hq => ?_) (fun hq => ?_)
                · replace hm := condT hq hm
                  refine TL_want rfl rfl ?_
                  refine TL_pure rfl rfl rfl rfl (op_load_agg ag54 sz54 rfl rfl rfl) ?_
                  refine TL_want rfl rfl ?_
                  refine TL_pure rfl rfl rfl rfl (op_move rfl) ?_
                  refine TL_want rfl rfl ?_
                  obtain ⟨r78, hr78, hm⟩ := bindS hm
                  refine TL_callF (ACall.F (F := F) (c_impl_IsCounter r19 r49.1 r78 hr78)) Try.call39 rfl rfl rfl rfl rfl ?_
                  refine TL_pure rfl rfl rfl rfl (op_pick_true rfl rfl) ?_
                  refine TL_pure rfl rfl rfl rfl (op_move rfl) ?_
                  refine TL_join 3 (fun _ : Unit => ⟨[(83, .bool (r78 && (!r54.2)))], []⟩) (fun _ => True) (fun _ _ => ?_) (fun hjj => ?_)
                  · refine TL_pure rfl rfl rfl rfl (op_assign rfl) ?_
                    refine TL_nil ?_
                    refine T_keepH [4] [] rfl rfl rfl rfl (by rw [hF]; rfl) ?_
                    refine T_ret ?_
                    obtain rfl := someI hm
                    refine ⟨[_], [], ⟨rfl, trivial⟩, ?_, rfl, rfl, rfl, rfl⟩
                    rfl
                  · refine TL_split 80 rfl rfl rfl (fun hq => ?_) (fun hq => ?_)
                    · refine TL_want rfl rfl ?_
                      refine TL_pure rfl rfl rfl rfl (op_move rfl) ?_
                      refine TL_want rfl rfl ?_
                      refine TL_pure rfl rfl rfl rfl (op_not rfl) ?_
                      refine TL_pure rfl rfl rfl rfl (op_pick_true rfl rfl) ?_
                      refine TL_keepH [83] [] rfl rfl rfl rfl (by rw [hF]; rfl) ?_
                      exact TL_cast _ (by first | (rw [hq, Bool.true_and]; done) | (rw [hq]; rfl)) (hjj () trivial)
                    · refine TL_pass rfl rfl rfl rfl rfl rfl rfl ?_
                      refine TL_pass rfl rfl rfl rfl rfl rfl rfl ?_
                      refine TL_pure rfl rfl rfl rfl (op_pick_false rfl rfl) ?_
                      refine TL_keepH [83] [] rfl rfl rfl rfl (by rw [hF]; rfl) ?_
                      exact TL_cast _ (by first | (rw [hq, Bool.false_and]; done) | (rw [hq]; rfl)) (hjj () trivial)
                · replace hm := condF hq hm
                  refine TL_pass rfl rfl rfl rfl rfl rfl rfl ?_
                  refine TL_pass rfl rfl rfl rfl rfl rfl rfl ?_
                  refine TL_pass rfl rfl rfl rfl rfl rfl rfl ?_
                  refine TL_pure rfl rfl rfl rfl (op_pick_false rfl rfl) ?_
                  refine TL_pure rfl rfl rfl rfl (op_move rfl) ?_
                  refine TL_pass rfl rfl rfl rfl rfl rfl rfl ?_
                  refine TL_pass rfl rfl rfl rfl rfl rfl rfl ?_
                  refine TL_pure rfl rfl rfl rfl (op_pick_false rfl rfl) ?_
                  refine TL_pure rfl rfl rfl rfl (op_assign rfl) ?_
                  refine TL_nil ?_
                  refine T_keepH [4] [] rfl rfl rfl rfl (by rw [hF]; rfl) ?_
                  refine T_ret ?_
                  obtain rfl := someI hm
                  refine ⟨[_], [], ⟨rfl, trivial⟩, ?_, rfl, rfl, rfl, rfl⟩
                  rfl
          · refine TL_split 60 rfl rfl rfl (fun hq => ?_) (fun hq => ?_)
            · refine TL_want rfl rfl ?_
              refine TL_pure rfl rfl rfl rfl (op_move rfl) ?_
              refine TL_pure rfl rfl rfl rfl (op_pick_true rfl rfl) ?_
              refine TL_keepH [5, 9, 10, 12, 62] [11, 12, 13, 16] rfl rfl rfl rfl (by rw [hF]; rfl) ?_
              exact TL_cast _ (by first | (rw [hq, Bool.true_and]; done) | (rw [hq]; rfl)) (hjj () trivial)
            · refine TL_pass rfl rfl rfl rfl rfl rfl rfl ?_
              refine TL_pure rfl rfl rfl rfl (op_pick_false rfl rfl) ?_
              refine TL_keepH [5, 9, 10, 12, 62] [11, 12, 13, 16] rfl rfl rfl rfl (by rw [hF]; rfl) ?_
              exact TL_cast _ (by first | (rw [hq, Bool.false_and]; done) | (rw [hq]; rfl)) (hjj () trivial)
    · refine TL_split 29 rfl rfl rfl (fun hq => ?_) (fun hq => ?_)
      · refine TL_pass rfl rfl rfl rfl rfl rfl rfl ?_
        refine TL_pass rfl rfl rfl rfl rfl rfl rfl ?_
        refine TL_pass rfl rfl rfl rfl rfl rfl rfl ?_
        refine TL_pass rfl rfl rfl rfl rfl rfl rfl ?_
        refine TL_pass rfl rfl rfl rfl rfl rfl rfl ?_
        refine TL_pass rfl rfl rfl rfl rfl rfl rfl ?_
        refine TL_pass rfl rfl rfl rfl rfl rfl rfl ?_
        refine TL_pure rfl rfl rfl rfl (op_pick_true rfl rfl) ?_
        refine TL_keepH [5, 6, 7, 37] [11, 12, 13, 14, 15] rfl rfl rfl rfl (by rw [hF]; rfl) ?_
        exact TL_cast _ (by first | (rw [hq, Bool.true_or]; done) | (rw [hq]; rfl)) (hjj () trivial)
      · refine TL_want rfl rfl ?_
        refine TL_pure rfl rfl rfl rfl (op_move rfl) ?_
        refine TL_want rfl rfl ?_
        refine TL_pure rfl rfl rfl rfl (op_lenO Try.underlying24 rfl rfl (List.length_map _)) ?_
        refine TL_fact (fun _ _ _ hr => RelP.owLen (id := 15) rfl hr) (fun hlen31 => ?_)
        rw [List.length_map] at hlen31
        refine TL_want rfl rfl ?_
        refine TL_pure rfl rfl rfl rfl (op_fieldAddr fa54_0 rfl rfl) ?_
        refine TL_want rfl rfl ?_
        refine TL_pure rfl rfl rfl rfl (op_load_one ag24 rfl rfl) ?_
        refine TL_want rfl rfl ?_
        refine TL_pure rfl rfl rfl rfl (op_lenO Try.underlying24 rfl rfl (List.length_map _)) ?_
        refine TL_fact (fun _ _ _ hr => RelP.owLen (id := 11) rfl hr) (fun hlen34 => ?_)
        rw [List.length_map] at hlen34
        refine TL_want rfl rfl ?_
        refine TL_pure rfl rfl rfl rfl (op_addW rfl rfl) ?_
        refine TL_want rfl rfl ?_
        refine TL_pure rfl rfl rfl rfl (op_neq rfl rfl) ?_
        refine TL_pure rfl rfl rfl rfl (op_pick_false rfl rfl) ?_
        refine TL_keepH [5, 6, 7, 37] [11, 12, 13, 14, 15] rfl rfl rfl rfl (by rw [hF]; rfl) ?_
        exact TL_cast _ (by first | (rw [hq, Bool.false_or]; done) | (rw [hq]; rfl)) (hjj () trivial)
end Go.Mod
