import Derived.Test.YtagnekdlhllndaaGf
namespace Go.Mod
open Go Go.AM Go.Proofs
set_option linter.unusedVariables false
set_option linter.unusedSimpArgs false
set_option maxRecDepth 100000
set_option maxHeartbeats 8000000
theorem c_impl_JoinPrograms (p0 : Program) (p1 : Program) (out : Program × Bool) (hm : m_impl_JoinPrograms p0 p1 = some out) : ACall Try.prog 18 [.agg [.sl 2 (List.map a_Term p0.Pre), .sl 8 (List.map a_Stmt p0.Body), .sl 2 (List.map a_Term p0.Post)], .agg [.sl 2 (List.map a_Term p1.Pre), .sl 8 (List.map a_Stmt p1.Body), .sl 2 (List.map a_Term p1.Post)]] [] (.tup [.agg [.ow 1000, .ow 1001, .ow 1002], .bool out.2]) [(1000, .arr ⟨false, true⟩ 2 75 (List.map a_Term out.1.Pre)), (1001, .arr ⟨false, true⟩ 8 77 (List.map a_Stmt out.1.Body)), (1002, .arr ⟨false, true⟩ 2 75 (List.map a_Term out.1.Post))] := by
  refine ACall.intro Try.func18 rfl Try.ntmps18 rfl (fun F hF => ?_)
  unfold m_impl_JoinPrograms at hm
  refine T_seq ?_
  refine T_region ?_
  refine TL_box 11 rfl rfl rfl rfl rfl rfl rfl ?_
  refine TL_box 12 rfl rfl rfl rfl rfl rfl rfl ?_
  refine TL_alloc 13 z27 rfl rfl rfl rfl rfl rfl rfl ?_
  refine TL_pure rfl rfl rfl rfl (op_assign rfl) ?_
  refine TL_nil ?_
  refine T_seq ?_
  refine T_seq ?_
  refine T_region ?_
  refine TL_pure rfl rfl rfl rfl (op_load_agg ag27 sz27 rfl rfl rfl) ?_
  obtain ⟨r10, hr10, hm⟩ := bindS hm
  refine TL_callF (c_impl_ValidProgram p0 r10 hr10) Try.call19 rfl rfl rfl rfl rfl ?_
  refine TL_pure rfl rfl rfl rfl (op_not rfl) ?_
  refine TL_pure rfl rfl rfl rfl (op_move rfl) ?_
  refine TL_split 12 rfl rfl rfl (fun hq => ?_) (fun hq => ?_)
  · replace hm := condT hq hm
    refine TL_pass rfl rfl rfl rfl rfl rfl rfl ?_
    refine TL_pass rfl rfl rfl rfl rfl rfl rfl ?_
    refine TL_pass rfl rfl rfl rfl rfl rfl rfl ?_
    refine TL_pure rfl rfl rfl rfl (op_pick_true rfl rfl) ?_
    refine TL_pure rfl rfl rfl rfl (op_move rfl) ?_
    refine TL_pass rfl rfl rfl rfl rfl rfl rfl ?_
    refine TL_pass rfl rfl rfl rfl rfl rfl rfl ?_
    refine TL_pass rfl rfl rfl rfl rfl rfl rfl ?_
    refine TL_pass rfl rfl rfl rfl rfl rfl rfl ?_
    refine TL_pass rfl rfl rfl rfl rfl rfl rfl ?_
    refine TL_pass rfl rfl rfl rfl rfl rfl rfl ?_
    refine TL_pass rfl rfl rfl rfl rfl rfl rfl ?_
    refine TL_pass rfl rfl rfl rfl rfl rfl rfl ?_
    refine TL_pass rfl rfl rfl rfl rfl rfl rfl ?_
    refine TL_pure rfl rfl rfl rfl (op_pick_true rfl rfl) ?_
    refine TL_nil ?_
    refine T_cond_true rfl ?_
    refine T_seq ?_
    refine T_region ?_
    refine TL_pure rfl rfl rfl rfl (op_buildP pl27 z27 rfl rfl rfl rfl rfl) ?_
    refine TL_store_box sz27 rfl rfl rfl rfl rfl rfl rfl rfl rfl ?_
    refine TL_pure rfl rfl rfl rfl (op_assign rfl) ?_
    refine TL_nil ?_
    refine T_ownNilBox 13 0 14 ⟨false, true⟩ 75 rfl rfl rfl (sz := 2) rfl rfl rfl rfl ?_
    refine T_ownNilBox 13 1 15 ⟨false, true⟩ 77 rfl rfl rfl (sz := 8) rfl rfl rfl rfl ?_
    refine T_ownNilBox 13 2 16 ⟨false, true⟩ 75 rfl rfl rfl (sz := 2) rfl rfl rfl rfl ?_
    refine T_keepH [4, 5] [13, 14, 15, 16] rfl rfl rfl rfl (by rw [hF]; rfl) ?_
    refine T_ren [(13, 13), (14, 1000), (15, 1001), (16, 1002)] rfl rfl rfl (by rw [hF]; rfl) ?_
    refine T_ret ?_
    obtain rfl := someI hm
    refine ⟨[_, _], [1000, 1001, 1002], ⟨⟨_, _, rfl, rfl, .inr ⟨ag27, _, _, sz27, rfl, rfl⟩⟩, rfl, trivial⟩, ?_, rfl, rfl, rfl, rfl⟩
    rfl
  · replace hm := condF hq hm
    refine TL_want rfl rfl ?_
    refine TL_pure rfl rfl rfl rfl (op_load_agg ag27 sz27 rfl rfl rfl) ?_
    refine TL_want rfl rfl ?_
    obtain ⟨r14, hr14, hm⟩ := bindS hm
    refine TL_callF (c_impl_ValidProgram p1 r14 hr14) Try.call19 rfl rfl rfl rfl rfl ?_
    refine TL_want rfl rfl ?_
    refine TL_pure rfl rfl rfl rfl (op_not rfl) ?_
    refine TL_pure rfl rfl rfl rfl (op_pick_false rfl rfl) ?_
    refine TL_pure rfl rfl rfl rfl (op_move rfl) ?_
    refine TL_join 10 (fun _ : Unit => ⟨[(2, .ptr 11 0 0), (3, .ptr 12 0 0), (4, .ptr 13 0 0), (27, .bool ((!r14) || (decide ((30 : Int) < (w64 ((w64 ((1 : Int) + (p0.Body.length : Int))) + (p1.Body.length : Int)))))))], [(11, .box [.sl 2 (List.map a_Term p0.Pre), .sl 8 (List.map a_Stmt p0.Body), .sl 2 (List.map a_Term p0.Post)]), (12, .box [.sl 2 (List.map a_Term p1.Pre), .sl 8 (List.map a_Stmt p1.Body), .sl 2 (List.map a_Term p1.Post)]), (13, .box [.snil, .snil, .snil])]⟩) (fun _ => True) (fun _ _ => ?_) (fun hjj => ?_)
    · refine TL_nil ?_
      refine T_cond rfl (fun hq => ?_) (fun hq => ?_)
      · replace hm := condT hq hm
        refine T_seq ?_
        refine T_region ?_
        refine TL_pure rfl rfl rfl rfl (op_buildP pl27 z27 rfl rfl rfl rfl rfl) ?_
        refine TL_store_box sz27 rfl rfl rfl rfl rfl rfl rfl rfl rfl ?_
        refine TL_pure rfl rfl rfl rfl (op_assign rfl) ?_
        refine TL_nil ?_
        refine T_ownNilBox 13 0 17 ⟨false, true⟩ 75 rfl rfl rfl (sz := 2) rfl rfl rfl rfl ?_
        refine T_ownNilBox 13 1 18 ⟨false, true⟩ 77 rfl rfl rfl (sz := 8) rfl rfl rfl rfl ?_
        refine T_ownNilBox 13 2 19 ⟨false, true⟩ 75 rfl rfl rfl (sz := 2) rfl rfl rfl rfl ?_
        refine T_keepH [4, 5] [13, 17, 18, 19] rfl rfl rfl rfl (by rw [hF]; rfl) ?_
        refine T_ren [(13, 13), (17, 1000), (18, 1001), (19, 1002)] rfl rfl rfl (by rw [hF]; rfl) ?_
        refine T_ret ?_
        obtain rfl := someI hm
        refine ⟨[_, _], [1000, 1001, 1002], ⟨⟨_, _, rfl, rfl, .inr ⟨ag27, _, _, sz27, rfl, rfl⟩⟩, rfl, trivial⟩, ?_, rfl, rfl, rfl, rfl⟩
        rfl
      · replace hm := condF hq hm
        refine T_skip ?_
        refine T_seq ?_
        refine T_region ?_
        refine TL_pure rfl rfl rfl rfl (op_buildP pl77 z77 rfl rfl rfl rfl rfl) ?_
        refine TL_ownNilAt 29 4 21 ⟨false, true⟩ 2 rfl rfl rfl (sz := 1) rfl rfl rfl rfl ?_
        refine TL_ownNilAt 29 6 22 ⟨false, true⟩ 2 rfl rfl rfl (sz := 1) rfl rfl rfl rfl ?_
        refine TL_ownNilAt 29 7 23 ⟨false, true⟩ 75 rfl rfl rfl (sz := 2) rfl rfl rfl rfl ?_
        refine TL_buildSliceD (ids := [21, 22, 23]) (es := List.map a_Stmt ([(Stmt.mk (1 : Int) (0 : Int) (0 : Int) (Term.mk (0 : Int) ([] : List Int)) (Term.mk (0 : Int) ([] : List Int)) ([] : List Term))])) 20 el25 z77 rfl rfl rfl rfl rfl rfl (by rw [hF]; intro j hj; simp only [List.mem_cons, List.not_mem_nil, or_false] at hj; rcases hj with rfl | rfl | rfl <;> rfl) rfl rfl rfl rfl rfl rfl ?_
        refine TL_pure rfl rfl rfl rfl (op_assign rfl) ?_
        refine TL_nil ?_
        refine T_seq ?_
        refine T_seq ?_
        refine T_drawZ [5] mix (by kernel_rfl) rfl ?_
        obtain ⟨r33, hr33, hm⟩ := bindS hm
        obtain ⟨q36, hq36, hm⟩ := bindS hm
        refine TZ_pure 0 (by kernel_rfl) rfl rfl rfl rfl rfl (op_fieldAddr fa27_1 rfl rfl) ?_
        refine TZ_pure 3 (by kernel_rfl) rfl rfl rfl rfl rfl (op_fieldAddr fa27_1 rfl rfl) ?_
        refine TZ_pure 4 (by kernel_rfl) rfl rfl rfl rfl rfl (op_load_one ag25 rfl rfl) ?_
        refine TZ_pure 7 (by kernel_rfl) rfl rfl rfl rfl rfl (op_move rfl) ?_
        refine TZ_one 1 (by kernel_rfl) rfl ?_
        refine TL_pure rfl rfl rfl rfl (op_load_one ag25 rfl rfl) ?_
        refine TL_nil ?_
        refine TZ_one 2 (by kernel_rfl) rfl ?_
        refine TLE_call [] [(1000, 46)] [] (c_slices_Clone_impl_Stmt_impl_Stmt p0.Body r33 hr33) (fun _ => rfl) Try.call46 rfl rfl rfl rfl rfl trivial rfl rfl rfl rfl rfl rfl rfl rfl rfl rfl rfl ?_
        refine TL_nil ?_
        refine TZ_one 5 (by kernel_rfl) rfl ?_
        refine TL_appendT (f := a_Stmt) (a := r33) (b := p1.Body) el25 z77 rfl rfl rfl rfl rfl rfl rfl (capI_spec hq36) rfl rfl rfl rfl rfl ?_
        refine TL_nil ?_
        refine TZ_pure 6 (by kernel_rfl) rfl rfl rfl rfl rfl (op_lenO Try.underlying25 rfl rfl (List.length_map _)) ?_
        refine TZ_fact (fun _ _ _ hr => RelP.owLen (id := 46) rfl hr) (fun hlen37 => ?_)
        rw [List.length_map] at hlen37
        refine TZ_done (by kernel_rfl) ?_
        refine T_block ?_
        refine T_keepH [2, 3, 4, 6, 36, 37, 38] [11, 12, 13, 20, 46] rfl rfl rfl rfl (by rw [hF]; rfl) ?_
        refine T_loop ?_
        obtain ⟨u0, hl0, hm⟩ := bindS hm
        refine TR_forL2 (r33 ++ p1.Body) (m_impl_JoinPrograms_L0) (fun (s0 : List Stmt) => s0) (fun n0 (s0 : List Stmt) => ⟨[(2, .ptr 11 0 0), (3, .ptr 12 0 0), (4, .ptr 13 0 0), (6, .ow 20), (36, .ow 46), (37, .int .i64 ((r33 ++ p1.Body).length : Int)), (38, .int .i64 (n0 : Int))], [(11, .box [.sl 2 (List.map a_Term p0.Pre), .sl 8 (List.map a_Stmt p0.Body), .sl 2 (List.map a_Term p0.Post)]), (12, .box [.sl 2 (List.map a_Term p1.Pre), .sl 8 (List.map a_Stmt p1.Body), .sl 2 (List.map a_Term p1.Post)]), (13, .box [.snil, .snil, .snil]), (20, .arr ⟨false, true⟩ 8 77 (List.map a_Stmt s0)), (46, .arr ⟨false, false⟩ 8 77 (List.map a_Stmt (r33 ++ p1.Body)))]⟩) (fun u0 => .exit 0) (fun u0 => ⟨[(2, .ptr 11 0 0), (3, .ptr 12 0 0), (4, .ptr 13 0 0), (6, .ow 20)], [(11, .box [.sl 2 (List.map a_Term p0.Pre), .sl 8 (List.map a_Stmt p0.Body), .sl 2 (List.map a_Term p0.Post)]), (12, .box [.sl 2 (List.map a_Term p1.Pre), .sl 8 (List.map a_Stmt p1.Body), .sl 2 (List.map a_Term p1.Post)]), (13, .box [.snil, .snil, .snil]), (20, .arr ⟨false, true⟩ 8 77 (List.map a_Stmt u0))]⟩) (fun u0 => m_impl_JoinPrograms_A0 p0 p1 u0 = some out) hl0 hm (fun u0 hm => ?_) (fun hx0 s0 hm => ?_) (fun hx0 n0 x0 s0 c0 hxn0 hlt0 hm hc0 => ?_)
        · unfold m_impl_JoinPrograms_A0 at hm
          refine T_seq ?_
          refine T_drawZ [8] mix (by kernel_rfl) rfl ?_
          obtain ⟨r50, hr50, hm⟩ := bindS hm
          obtain ⟨r54, hr54, hm⟩ := bindS hm
          refine TZ_pure 0 (by kernel_rfl) rfl rfl rfl rfl rfl (op_fieldAddr fa27_0 rfl rfl) ?_
          refine TZ_pure 1 (by kernel_rfl) rfl rfl rfl rfl rfl (op_load_one ag24 rfl rfl) ?_
          refine TZ_pure 3 (by kernel_rfl) rfl rfl rfl rfl rfl (op_move rfl) ?_
          refine TZ_pure 4 (by kernel_rfl) rfl rfl rfl rfl rfl (op_fieldAddr fa27_2 rfl rfl) ?_
          refine TZ_pure 5 (by kernel_rfl) rfl rfl rfl rfl rfl (op_load_one ag24 rfl rfl) ?_
          refine TZ_one 2 (by kernel_rfl) rfl ?_
          refine TL_callO [(1000, 64)] (c_impl_ownTerms p0.Pre r50 hr50) Try.call48 rfl rfl rfl rfl rfl rfl rfl rfl rfl rfl rfl rfl rfl ?_
          refine TL_nil ?_
          refine TZ_one 6 (by kernel_rfl) rfl ?_
          refine TL_callO [(1000, 65)] (c_impl_ownTerms p1.Post r54 hr54) Try.call48 rfl rfl rfl rfl rfl rfl rfl rfl rfl rfl rfl rfl rfl ?_
          refine TL_nil ?_
          refine TZ_pure 7 (by kernel_rfl) rfl rfl rfl rfl rfl (op_buildP pl27 z27 rfl rfl rfl rfl rfl) ?_
          refine TZ_one 8 (by kernel_rfl) rfl ?_
          refine TL_store_box sz27 rfl rfl rfl rfl rfl rfl rfl rfl rfl ?_
          refine TL_nil ?_
          refine TZ_pure 9 (by kernel_rfl) rfl rfl rfl rfl rfl (op_assign rfl) ?_
          refine TZ_done (by kernel_rfl) ?_
          refine T_keepH [4, 5] [13, 20, 64, 65] rfl rfl rfl rfl (by rw [hF]; rfl) ?_
          refine T_ren [(13, 13), (20, 1001), (64, 1000), (65, 1002)] rfl rfl rfl (by rw [hF]; rfl) ?_
          refine T_keepH [4, 5] [13, 1000, 1001, 1002] rfl rfl rfl rfl (by rw [hF]; rfl) ?_
          refine T_ret ?_
          obtain rfl := someI hm
          refine ⟨[_, _], [1000, 1001, 1002], ⟨⟨_, _, rfl, rfl, .inr ⟨ag27, _, _, sz27, rfl, rfl⟩⟩, rfl, trivial⟩, ?_, rfl, rfl, rfl, rfl⟩
          rfl
        · refine T_seq ?_
          refine T_region ?_
          refine TL_pure rfl rfl rfl rfl (op_lss rfl rfl) ?_
          refine TL_nil ?_
          refine T_seq ?_
          refine T_if_false rfl (decide_eq_false (by simp)) ?_
          refine T_keepH [2, 3, 4, 6] [11, 12, 13, 20] rfl rfl rfl rfl (by rw [hF]; rfl) ?_
          refine T_exit ?_
          exact hx0 s0 hm
        · unfold m_impl_JoinPrograms_L0 at hm
          refine T_seq ?_
          refine T_region ?_
          refine TL_pure rfl rfl rfl rfl (op_lss rfl rfl) ?_
          refine TL_nil ?_
          refine T_seq ?_
          refine T_if_true rfl (decide_eq_true (Int.ofNat_lt.2 hlt0)) ?_
          refine T_skip ?_
          refine T_seq ?_
          refine T_block ?_
          refine T_seq ?_
          refine T_region ?_
          refine TL_pure rfl rfl rfl rfl (op_index_ow el25 rfl rfl rfl rfl (by simpa using (List.getElem?_eq_some_iff.1 hxn0).1)) ?_
          refine TL_pure rfl rfl rfl rfl (op_loadTN ag77 sz77 rfl rfl (hxn0) rfl rfl rfl) ?_
          refine TL_alloc 57 z77 rfl rfl rfl rfl rfl rfl rfl ?_
          refine TL_store_box sz77 rfl rfl rfl rfl rfl rfl rfl rfl rfl ?_
          refine TL_nil ?_
          refine T_region ?_
          refine TL_pure rfl rfl rfl rfl (op_move rfl) ?_
          refine TL_pure rfl rfl rfl rfl (op_load_agg ag77 sz77 rfl rfl rfl) ?_
          obtain ⟨r44, hr44, hm⟩ := bindS hm
          refine TL_callO [(1000, 58), (1001, 59), (1002, 60)] (c_impl_ownStmt x0 r44 hr44) Try.call47 rfl rfl rfl rfl rfl rfl rfl rfl rfl rfl rfl rfl rfl ?_
          refine TL_buildSliceD (ids := [58, 59, 60]) (es := List.map a_Stmt [r44]) 61 el25 z77 rfl rfl rfl rfl rfl rfl (by rw [hF]; intro j hj; simp only [List.mem_cons, List.not_mem_nil, or_false] at hj; rcases hj with rfl | rfl | rfl <;> rfl) rfl rfl rfl rfl rfl rfl ?_
          obtain ⟨q46, hq46, hm⟩ := bindS hm
          refine TL_appendDT (f := a_Stmt) (a := s0) (b := [r44]) el25 z77 rfl rfl rfl rfl rfl rfl rfl rfl (by rw [hF]; rfl) (capI_spec hq46) rfl rfl rfl rfl rfl ?_
          refine TL_pure rfl rfl rfl rfl (op_assign rfl) ?_
          refine TL_nil ?_
          refine T_region ?_
          refine TL_pure rfl rfl rfl rfl (op_addN rfl rfl (Nat.lt_of_lt_of_le hlt0 hlen37)) ?_
          refine TL_pure rfl rfl rfl rfl (op_move rfl) ?_
          refine TL_nil ?_
          refine TR_keepH [2, 3, 4, 6, 36, 37, 38] [11, 12, 13, 20, 46] rfl rfl rfl rfl (by rw [hF]; rfl) ?_
          obtain rfl := someI hm
          have hn := CtlOK_next hc0
          exact hn _ rfl
    · refine TL_split 17 rfl rfl rfl (fun hq => ?_) (fun hq => ?_)
      · refine TL_pass rfl rfl rfl rfl rfl rfl rfl ?_
        refine TL_pass rfl rfl rfl rfl rfl rfl rfl ?_
        refine TL_pass rfl rfl rfl rfl rfl rfl rfl ?_
        refine TL_pass rfl rfl rfl rfl rfl rfl rfl ?_
        refine TL_pass rfl rfl rfl rfl rfl rfl rfl ?_
        refine TL_pass rfl rfl rfl rfl rfl rfl rfl ?_
        refine TL_pass rfl rfl rfl rfl rfl rfl rfl ?_
        refine TL_pass rfl rfl rfl rfl rfl rfl rfl ?_
        refine TL_pass rfl rfl rfl rfl rfl rfl rfl ?_
        refine TL_pure rfl rfl rfl rfl (op_pick_true rfl rfl) ?_
        refine TL_keepH [2, 3, 4, 27] [11, 12, 13] rfl rfl rfl rfl (by rw [hF]; rfl) ?_
        exact TL_cast _ (by first | (rw [hq, Bool.true_or]; done) | (rw [hq]; rfl)) (hjj () trivial)
      · refine TL_want rfl rfl ?_
        refine TL_pure rfl rfl rfl rfl (op_fieldAddr fa27_1 rfl rfl) ?_
        refine TL_want rfl rfl ?_
        refine TL_pure rfl rfl rfl rfl (op_load_one ag25 rfl rfl) ?_
        refine TL_want rfl rfl ?_
        refine TL_pure rfl rfl rfl rfl (op_lenT Try.underlying25 rfl (List.length_map _)) ?_
        refine TL_fact (fun _ _ _ hr => RelP.slLen (i := 19) rfl hr) (fun hlen20 => ?_)
        rw [List.length_map] at hlen20
        refine TL_want rfl rfl ?_
        refine TL_pure rfl rfl rfl rfl (op_addW rfl rfl) ?_
        refine TL_want rfl rfl ?_
        refine TL_pure rfl rfl rfl rfl (op_fieldAddr fa27_1 rfl rfl) ?_
        refine TL_want rfl rfl ?_
        refine TL_pure rfl rfl rfl rfl (op_load_one ag25 rfl rfl) ?_
        refine TL_want rfl rfl ?_
        refine TL_pure rfl rfl rfl rfl (op_lenT Try.underlying25 rfl (List.length_map _)) ?_
        refine TL_fact (fun _ _ _ hr => RelP.slLen (i := 23) rfl hr) (fun hlen24 => ?_)
        rw [List.length_map] at hlen24
        refine TL_want rfl rfl ?_
        refine TL_pure rfl rfl rfl rfl (op_addW rfl rfl) ?_
        refine TL_want rfl rfl ?_
        refine TL_pure rfl rfl rfl rfl (op_gtr rfl rfl) ?_
        refine TL_pure rfl rfl rfl rfl (op_pick_false rfl rfl) ?_
        refine TL_keepH [2, 3, 4, 27] [11, 12, 13] rfl rfl rfl rfl (by rw [hF]; rfl) ?_
        exact TL_cast _ (by first | (rw [hq, Bool.false_or]; done) | (rw [hq]; rfl)) (hjj () trivial)
theorem c_laws_eqInt64S (p0 : List Int) (p1 : List Int) (out : Bool) (hm : m_laws_eqInt64S p0 p1 = some out) : ACall Try.prog 77 [.sl 1 (List.map a_i64 p0), .sl 1 (List.map a_i64 p1)] [] (.bool out) [] := by
  refine ACall.intro Try.func77 rfl Try.ntmps77 rfl (fun F hF => ?_)
  unfold m_laws_eqInt64S at hm
  refine T_seq ?_
  refine T_region ?_
  refine TL_pure rfl rfl rfl rfl (op_assign rfl) ?_
  refine TL_nil ?_
  refine T_seq ?_
  refine T_seq ?_
  refine T_region ?_
  refine TL_pure rfl rfl rfl rfl (op_move rfl) ?_
  refine TL_pure rfl rfl rfl rfl (op_lenT Try.underlying29 rfl (List.length_map _)) ?_
  refine TL_fact (fun _ _ _ hr => RelP.slLen (i := 6) rfl hr) (fun hlen7 => ?_)
  rw [List.length_map] at hlen7
  refine TL_pure rfl rfl rfl rfl (op_move rfl) ?_
  refine TL_pure rfl rfl rfl rfl (op_lenT Try.underlying29 rfl (List.length_map _)) ?_
  refine TL_fact (fun _ _ _ hr => RelP.slLen (i := 8) rfl hr) (fun hlen9 => ?_)
  rw [List.length_map] at hlen9
  refine TL_pure rfl rfl rfl rfl (op_neq rfl rfl) ?_
  refine TL_nil ?_
  refine T_cond rfl (fun hq => ?_) (fun hq => ?_)
  · replace hm := condT hq hm
    refine T_seq ?_
    refine T_region ?_
    refine TL_pure rfl rfl rfl rfl (op_assign rfl) ?_
    refine TL_nil ?_
    refine T_keepH [4] [] rfl rfl rfl rfl (by rw [hF]; rfl) ?_
    refine T_ret ?_
    obtain rfl := someI hm
    refine ⟨[_], [], ⟨rfl, trivial⟩, ?_, rfl, rfl, rfl, rfl⟩
    rfl
  · replace hm := condF hq hm
    refine T_skip ?_
    refine T_seq ?_
    refine T_seq ?_
    refine T_region ?_
    refine TL_pure rfl rfl rfl rfl (op_assign rfl) ?_
    refine TL_nil ?_
    refine T_block ?_
    refine T_keepH [0, 1, 5] [] rfl rfl rfl rfl (by rw [hF]; rfl) ?_
    refine T_loop ?_
    obtain ⟨u0, hl0, hm⟩ := bindS hm
    refine TR_iter2 (m_laws_eqInt64S_L0 p0 p1) (fun (s0 : Int) => ⟨[(0, .sl 1 (List.map a_i64 p0)), (1, .sl 1 (List.map a_i64 p1)), (5, .int .i64 s0)], []⟩) (fun u0 => match u0 with | .inl u0 => .exit 0 | .inr u0 => .ret) (fun u0 => match u0 with | .inl u0 => ⟨[], []⟩ | .inr u0 => ⟨[(4, .bool u0)], []⟩) (fun u0 => m_laws_eqInt64S_A0 u0 = some out) hl0 hm (fun u0 hm => ?_) (fun hx0 s0 c0 hm hc0 => ?_)
    · rcases u0 with u0 | u0
      · unfold m_laws_eqInt64S_A0 at hm
        refine T_seq ?_
        refine T_region ?_
        refine TL_pure rfl rfl rfl rfl (op_assign rfl) ?_
        refine TL_nil ?_
        refine T_keepH [4] [] rfl rfl rfl rfl (by rw [hF]; rfl) ?_
        refine T_ret ?_
        obtain rfl := someI hm
        refine ⟨[_], [], ⟨rfl, trivial⟩, ?_, rfl, rfl, rfl, rfl⟩
        rfl
      · unfold m_laws_eqInt64S_A0 at hm
        obtain rfl := someI hm
        refine ⟨[_], [], ⟨rfl, trivial⟩, ?_, rfl, rfl, rfl, rfl⟩
        rfl
    · unfold m_laws_eqInt64S_L0 at hm
      refine T_seq ?_
      refine T_seq ?_
      refine T_region ?_
      refine TL_pure rfl rfl rfl rfl (op_move rfl) ?_
      refine TL_pure rfl rfl rfl rfl (op_move rfl) ?_
      refine TL_pure rfl rfl rfl rfl (op_lenT Try.underlying29 rfl (List.length_map _)) ?_
      refine TL_pure rfl rfl rfl rfl (op_lss rfl rfl) ?_
      refine TL_nil ?_
      refine T_cond rfl (fun hq => ?_) (fun hq => ?_)
      · replace hm := condT hq hm
        refine T_skip ?_
        refine T_seq ?_
        refine T_block ?_
        refine T_seq ?_
        refine T_drawZ [] mix (by kernel_rfl) rfl ?_
        obtain ⟨x19, hx19, hm⟩ := bindS hm
        obtain ⟨x23, hx23, hm⟩ := bindS hm
        refine TZ_pure 0 (by kernel_rfl) rfl rfl rfl rfl rfl (op_move rfl) ?_
        refine TZ_pure 1 (by kernel_rfl) rfl rfl rfl rfl rfl (op_move rfl) ?_
        refine TZ_pure 2 (by kernel_rfl) rfl rfl rfl rfl rfl (op_indexT el29 rfl rfl hx19 rfl) ?_
        refine TZ_pure 3 (by kernel_rfl) rfl rfl rfl rfl rfl (op_load_one ag2 rfl rfl) ?_
        refine TZ_pure 4 (by kernel_rfl) rfl rfl rfl rfl rfl (op_move rfl) ?_
        refine TZ_pure 5 (by kernel_rfl) rfl rfl rfl rfl rfl (op_move rfl) ?_
        refine TZ_pure 6 (by kernel_rfl) rfl rfl rfl rfl rfl (op_indexT el29 rfl rfl hx23 rfl) ?_
        refine TZ_pure 7 (by kernel_rfl) rfl rfl rfl rfl rfl (op_load_one ag2 rfl rfl) ?_
        refine TZ_pure 8 (by kernel_rfl) rfl rfl rfl rfl rfl (op_neq rfl rfl) ?_
        refine TZ_done (by kernel_rfl) ?_
        refine T_cond rfl (fun hq => ?_) (fun hq => ?_)
        · replace hm := condT hq hm
          refine T_seq ?_
          refine T_region ?_
          refine TL_pure rfl rfl rfl rfl (op_assign rfl) ?_
          refine TL_nil ?_
          refine T_keepH [4] [] rfl rfl rfl rfl (by rw [hF]; rfl) ?_
          refine T_ret ?_
          obtain rfl := someI hm
          have hn := CtlOK_out hc0
          exact hx0 (.inr false) hn
        · replace hm := condF hq hm
          refine T_skip ?_
          refine T_region ?_
          refine TL_pure rfl rfl rfl rfl (op_move rfl) ?_
          refine TL_pure rfl rfl rfl rfl (op_addW rfl rfl) ?_
          refine TL_pure rfl rfl rfl rfl (op_assign rfl) ?_
          refine TL_nil ?_
          refine TR_keepH [0, 1, 5] [] rfl rfl rfl rfl (by rw [hF]; rfl) ?_
          obtain rfl := someI hm
          have hn := CtlOK_next hc0
          exact hn _ rfl
      · replace hm := condF hq hm
        refine T_keepH [] [] rfl rfl rfl rfl (by rw [hF]; rfl) ?_
        refine T_exit ?_
        obtain rfl := someI hm
        have hn := CtlOK_out hc0
        exact hx0 (.inl ()) hn
theorem c_laws_eqTerm (p0 : Term) (p1 : Term) (out : Bool) (hm : m_laws_eqTerm p0 p1 = some out) : ACall Try.prog 101 [.agg [.int .i64 p0.Const, .sl 1 (List.map a_i64 p0.Coeffs)], .agg [.int .i64 p1.Const, .sl 1 (List.map a_i64 p1.Coeffs)]] [] (.bool out) [] := by
  refine ACall.intro Try.func101 rfl Try.ntmps101 rfl (fun F hF => ?_)
  unfold m_laws_eqTerm at hm
  refine T_seq ?_
  refine T_region ?_
  refine TL_box 11 rfl rfl rfl rfl rfl rfl rfl ?_
  refine TL_box 12 rfl rfl rfl rfl rfl rfl rfl ?_
  refine TL_pure rfl rfl rfl rfl (op_assign rfl) ?_
  refine TL_nil ?_
  refine T_seq ?_
  refine T_seq ?_
  refine T_region ?_
  refine TL_pure rfl rfl rfl rfl (op_fieldAddr fa75_0 rfl rfl) ?_
  refine TL_pure rfl rfl rfl rfl (op_load_one ag2 rfl rfl) ?_
  refine TL_pure rfl rfl rfl rfl (op_fieldAddr fa75_0 rfl rfl) ?_
  refine TL_pure rfl rfl rfl rfl (op_load_one ag2 rfl rfl) ?_
  refine TL_pure rfl rfl rfl rfl (op_neq rfl rfl) ?_
  refine TL_nil ?_
  refine T_cond rfl (fun hq => ?_) (fun hq => ?_)
  · replace hm := condT hq hm
    refine T_seq ?_
    refine T_region ?_
    refine TL_pure rfl rfl rfl rfl (op_assign rfl) ?_
    refine TL_nil ?_
    refine T_keepH [4] [] rfl rfl rfl rfl (by rw [hF]; rfl) ?_
    refine T_ret ?_
    obtain rfl := someI hm
    refine ⟨[_], [], ⟨rfl, trivial⟩, ?_, rfl, rfl, rfl, rfl⟩
    rfl
  · replace hm := condF hq hm
    refine T_skip ?_
    refine T_seq ?_
    refine T_seq ?_
    refine T_region ?_
    refine TL_pure rfl rfl rfl rfl (op_fieldAddr fa75_1 rfl rfl) ?_
    refine TL_pure rfl rfl rfl rfl (op_load_one ag29 rfl rfl) ?_
    refine TL_pure rfl rfl rfl rfl (op_fieldAddr fa75_1 rfl rfl) ?_
    refine TL_pure rfl rfl rfl rfl (op_load_one ag29 rfl rfl) ?_
    obtain ⟨r14, hr14, hm⟩ := bindS hm
    refine TL_callF (c_laws_eqInt64S p0.Coeffs p1.Coeffs r14 hr14) Try.call77 rfl rfl rfl rfl rfl ?_
    refine TL_pure rfl rfl rfl rfl (op_not rfl) ?_
    refine TL_nil ?_
    refine T_cond rfl (fun hq => ?_) (fun hq => ?_)
    · replace hm := condT hq hm
      refine T_seq ?_
      refine T_region ?_
      refine TL_pure rfl rfl rfl rfl (op_assign rfl) ?_
      refine TL_nil ?_
      refine T_keepH [4] [] rfl rfl rfl rfl (by rw [hF]; rfl) ?_
      refine T_ret ?_
      obtain rfl := someI hm
      refine ⟨[_], [], ⟨rfl, trivial⟩, ?_, rfl, rfl, rfl, rfl⟩
      rfl
    · replace hm := condF hq hm
      refine T_skip ?_
      refine T_seq ?_
      refine T_region ?_
      refine TL_pure rfl rfl rfl rfl (op_assign rfl) ?_
      refine TL_nil ?_
      refine T_keepH [4] [] rfl rfl rfl rfl (by rw [hF]; rfl) ?_
      refine T_ret ?_
      obtain rfl := someI hm
      refine ⟨[_], [], ⟨rfl, trivial⟩, ?_, rfl, rfl, rfl, rfl⟩
      rfl
theorem c_laws_eqTermS (p0 : List Term) (p1 : List Term) (out : Bool) (hm : m_laws_eqTermS p0 p1 = some out) : ACall Try.prog 68 [.sl 2 (List.map a_Term p0), .sl 2 (List.map a_Term p1)] [] (.bool out) [] := by
  refine ACall.intro Try.func68 rfl Try.ntmps68 rfl (fun F hF => ?_)
  unfold m_laws_eqTermS at hm
  refine T_seq ?_
  refine T_region ?_
  refine TL_pure rfl rfl rfl rfl (op_assign rfl) ?_
  refine TL_nil ?_
  refine T_seq ?_
  refine T_seq ?_
  refine T_region ?_
  refine TL_pure rfl rfl rfl rfl (op_move rfl) ?_
  refine TL_pure rfl rfl rfl rfl (op_lenT Try.underlying24 rfl (List.length_map _)) ?_
  refine TL_fact (fun _ _ _ hr => RelP.slLen (i := 6) rfl hr) (fun hlen7 => ?_)
  rw [List.length_map] at hlen7
  refine TL_pure rfl rfl rfl rfl (op_move rfl) ?_
  refine TL_pure rfl rfl rfl rfl (op_lenT Try.underlying24 rfl (List.length_map _)) ?_
  refine TL_fact (fun _ _ _ hr => RelP.slLen (i := 8) rfl hr) (fun hlen9 => ?_)
  rw [List.length_map] at hlen9
  refine TL_pure rfl rfl rfl rfl (op_neq rfl rfl) ?_
  refine TL_nil ?_
  refine T_cond rfl (fun hq => ?_) (fun hq => ?_)
  · replace hm := condT hq hm
    refine T_seq ?_
    refine T_region ?_
    refine TL_pure rfl rfl rfl rfl (op_assign rfl) ?_
    refine TL_nil ?_
    refine T_keepH [4] [] rfl rfl rfl rfl (by rw [hF]; rfl) ?_
    refine T_ret ?_
    obtain rfl := someI hm
    refine ⟨[_], [], ⟨rfl, trivial⟩, ?_, rfl, rfl, rfl, rfl⟩
    rfl
  · replace hm := condF hq hm
    refine T_skip ?_
    refine T_seq ?_
    refine T_seq ?_
    refine T_region ?_
    refine TL_pure rfl rfl rfl rfl (op_assign rfl) ?_
    refine TL_nil ?_
    refine T_block ?_
    refine T_keepH [0, 1, 5] [] rfl rfl rfl rfl (by rw [hF]; rfl) ?_
    refine T_loop ?_
    obtain ⟨u0, hl0, hm⟩ := bindS hm
    refine TR_iter2 (m_laws_eqTermS_L0 p0 p1) (fun (s0 : Int) => ⟨[(0, .sl 2 (List.map a_Term p0)), (1, .sl 2 (List.map a_Term p1)), (5, .int .i64 s0)], []⟩) (fun u0 => match u0 with | .inl u0 => .exit 0 | .inr u0 => .ret) (fun u0 => match u0 with | .inl u0 => ⟨[], []⟩ | .inr u0 => ⟨[(4, .bool u0)], []⟩) (fun u0 => m_laws_eqTermS_A0 u0 = some out) hl0 hm (fun u0 hm => ?_) (fun hx0 s0 c0 hm hc0 => ?_)
    · rcases u0 with u0 | u0
      · unfold m_laws_eqTermS_A0 at hm
        refine T_seq ?_
        refine T_region ?_
        refine TL_pure rfl rfl rfl rfl (op_assign rfl) ?_
        refine TL_nil ?_
        refine T_keepH [4] [] rfl rfl rfl rfl (by rw [hF]; rfl) ?_
        refine T_ret ?_
        obtain rfl := someI hm
        refine ⟨[_], [], ⟨rfl, trivial⟩, ?_, rfl, rfl, rfl, rfl⟩
        rfl
      · unfold m_laws_eqTermS_A0 at hm
        obtain rfl := someI hm
        refine ⟨[_], [], ⟨rfl, trivial⟩, ?_, rfl, rfl, rfl, rfl⟩
        rfl
    · unfold m_laws_eqTermS_L0 at hm
      refine T_seq ?_
      refine T_seq ?_
      refine T_region ?_
      refine TL_pure rfl rfl rfl rfl (op_move rfl) ?_
      refine TL_pure rfl rfl rfl rfl (op_move rfl) ?_
      refine TL_pure rfl rfl rfl rfl (op_lenT Try.underlying24 rfl (List.length_map _)) ?_
      refine TL_pure rfl rfl rfl rfl (op_lss rfl rfl) ?_
      refine TL_nil ?_
      refine T_cond rfl (fun hq => ?_) (fun hq => ?_)
      · replace hm := condT hq hm
        refine T_skip ?_
        refine T_seq ?_
        refine T_block ?_
        refine T_seq ?_
        refine T_drawZ [] mix (by kernel_rfl) rfl ?_
        obtain ⟨x19, hx19, hm⟩ := bindS hm
        obtain ⟨x23, hx23, hm⟩ := bindS hm
        obtain ⟨r25, hr25, hm⟩ := bindS hm
        refine TZ_pure 0 (by kernel_rfl) rfl rfl rfl rfl rfl (op_move rfl) ?_
        refine TZ_pure 1 (by kernel_rfl) rfl rfl rfl rfl rfl (op_move rfl) ?_
        refine TZ_pure 2 (by kernel_rfl) rfl rfl rfl rfl rfl (op_indexT el24 rfl rfl hx19 rfl) ?_
        refine TZ_pure 3 (by kernel_rfl) rfl rfl rfl rfl rfl (op_load_agg ag75 sz75 rfl rfl rfl) ?_
        refine TZ_pure 4 (by kernel_rfl) rfl rfl rfl rfl rfl (op_move rfl) ?_
        refine TZ_pure 5 (by kernel_rfl) rfl rfl rfl rfl rfl (op_move rfl) ?_
        refine TZ_pure 6 (by kernel_rfl) rfl rfl rfl rfl rfl (op_indexT el24 rfl rfl hx23 rfl) ?_
        refine TZ_pure 7 (by kernel_rfl) rfl rfl rfl rfl rfl (op_load_agg ag75 sz75 rfl rfl rfl) ?_
        refine TZ_one 8 (by kernel_rfl) rfl ?_
        refine TL_callF (c_laws_eqTerm x19 x23 r25 hr25) Try.call101 rfl rfl rfl rfl rfl ?_
        refine TL_nil ?_
        refine TZ_pure 9 (by kernel_rfl) rfl rfl rfl rfl rfl (op_not rfl) ?_
        refine TZ_done (by kernel_rfl) ?_
        refine T_cond rfl (fun hq => ?_) (fun hq => ?_)
        · replace hm := condT hq hm
          refine T_seq ?_
          refine T_region ?_
          refine TL_pure rfl rfl rfl rfl (op_assign rfl) ?_
          refine TL_nil ?_
          refine T_keepH [4] [] rfl rfl rfl rfl (by rw [hF]; rfl) ?_
          refine T_ret ?_
          obtain rfl := someI hm
          have hn := CtlOK_out hc0
          exact hx0 (.inr false) hn
        · replace hm := condF hq hm
          refine T_skip ?_
          refine T_region ?_
          refine TL_pure rfl rfl rfl rfl (op_move rfl) ?_
          refine TL_pure rfl rfl rfl rfl (op_addW rfl rfl) ?_
          refine TL_pure rfl rfl rfl rfl (op_assign rfl) ?_
          refine TL_nil ?_
          refine TR_keepH [0, 1, 5] [] rfl rfl rfl rfl (by rw [hF]; rfl) ?_
          obtain rfl := someI hm
          have hn := CtlOK_next hc0
          exact hn _ rfl
      · replace hm := condF hq hm
        refine T_keepH [] [] rfl rfl rfl rfl (by rw [hF]; rfl) ?_
        refine T_exit ?_
        obtain rfl := someI hm
        have hn := CtlOK_out hc0
        exact hx0 (.inl ()) hn
theorem c_laws_eqStmt (p0 : Stmt) (p1 : Stmt) (out : Bool) (hm : m_laws_eqStmt p0 p1 = some out) : ACall Try.prog 58 [.agg [.int .i64 p0.Kind, .int .i64 p0.Var, .int .i64 p0.Event, .int .i64 p0.Sum.Const, .sl 1 (List.map a_i64 p0.Sum.Coeffs), .int .i64 p0.Index.Const, .sl 1 (List.map a_i64 p0.Index.Coeffs), .sl 2 (List.map a_Term p0.Facts)], .agg [.int .i64 p1.Kind, .int .i64 p1.Var, .int .i64 p1.Event, .int .i64 p1.Sum.Const, .sl 1 (List.map a_i64 p1.Sum.Coeffs), .int .i64 p1.Index.Const, .sl 1 (List.map a_i64 p1.Index.Coeffs), .sl 2 (List.map a_Term p1.Facts)]] [] (.bool out) [] := by
  refine ACall.intro Try.func58 rfl Try.ntmps58 rfl (fun F hF => ?_)
  unfold m_laws_eqStmt at hm
  refine T_seq ?_
  refine T_region ?_
  refine TL_box 11 rfl rfl rfl rfl rfl rfl rfl ?_
  refine TL_box 12 rfl rfl rfl rfl rfl rfl rfl ?_
  refine TL_pure rfl rfl rfl rfl (op_assign rfl) ?_
  refine TL_nil ?_
  refine T_seq ?_
  refine T_seq ?_
  refine T_region ?_
  refine TL_pure rfl rfl rfl rfl (op_fieldAddr fa77_0 rfl rfl) ?_
  refine TL_pure rfl rfl rfl rfl (op_load_one ag2 rfl rfl) ?_
  refine TL_pure rfl rfl rfl rfl (op_fieldAddr fa77_0 rfl rfl) ?_
  refine TL_pure rfl rfl rfl rfl (op_load_one ag2 rfl rfl) ?_
  refine TL_pure rfl rfl rfl rfl (op_neq rfl rfl) ?_
  refine TL_nil ?_
  refine T_cond rfl (fun hq => ?_) (fun hq => ?_)
  · replace hm := condT hq hm
    refine T_seq ?_
    refine T_region ?_
    refine TL_pure rfl rfl rfl rfl (op_assign rfl) ?_
    refine TL_nil ?_
    refine T_keepH [4] [] rfl rfl rfl rfl (by rw [hF]; rfl) ?_
    refine T_ret ?_
    obtain rfl := someI hm
    refine ⟨[_], [], ⟨rfl, trivial⟩, ?_, rfl, rfl, rfl, rfl⟩
    rfl
  · replace hm := condF hq hm
    refine T_skip ?_
    refine T_seq ?_
    refine T_seq ?_
    refine T_region ?_
    refine TL_pure rfl rfl rfl rfl (op_fieldAddr fa77_1 rfl rfl) ?_
    refine TL_pure rfl rfl rfl rfl (op_load_one ag2 rfl rfl) ?_
    refine TL_pure rfl rfl rfl rfl (op_fieldAddr fa77_1 rfl rfl) ?_
    refine TL_pure rfl rfl rfl rfl (op_load_one ag2 rfl rfl) ?_
    refine TL_pure rfl rfl rfl rfl (op_neq rfl rfl) ?_
    refine TL_nil ?_
    refine T_cond rfl (fun hq => ?_) (fun hq => ?_)
    · replace hm := condT hq hm
      refine T_seq ?_
      refine T_region ?_
      refine TL_pure rfl rfl rfl rfl (op_assign rfl) ?_
      refine TL_nil ?_
      refine T_keepH [4] [] rfl rfl rfl rfl (by rw [hF]; rfl) ?_
      refine T_ret ?_
      obtain rfl := someI hm
      refine ⟨[_], [], ⟨rfl, trivial⟩, ?_, rfl, rfl, rfl, rfl⟩
      rfl
    · replace hm := condF hq hm
      refine T_skip ?_
      refine T_seq ?_
      refine T_seq ?_
      refine T_region ?_
      refine TL_pure rfl rfl rfl rfl (op_fieldAddr fa77_2 rfl rfl) ?_
      refine TL_pure rfl rfl rfl rfl (op_load_one ag2 rfl rfl) ?_
      refine TL_pure rfl rfl rfl rfl (op_fieldAddr fa77_2 rfl rfl) ?_
      refine TL_pure rfl rfl rfl rfl (op_load_one ag2 rfl rfl) ?_
      refine TL_pure rfl rfl rfl rfl (op_neq rfl rfl) ?_
      refine TL_nil ?_
      refine T_cond rfl (fun hq => ?_) (fun hq => ?_)
      · replace hm := condT hq hm
        refine T_seq ?_
        refine T_region ?_
        refine TL_pure rfl rfl rfl rfl (op_assign rfl) ?_
        refine TL_nil ?_
        refine T_keepH [4] [] rfl rfl rfl rfl (by rw [hF]; rfl) ?_
        refine T_ret ?_
        obtain rfl := someI hm
        refine ⟨[_], [], ⟨rfl, trivial⟩, ?_, rfl, rfl, rfl, rfl⟩
        rfl
      · replace hm := condF hq hm
        refine T_skip ?_
        refine T_seq ?_
        refine T_seq ?_
        refine T_region ?_
        refine TL_pure rfl rfl rfl rfl (op_fieldAddr fa77_3 rfl rfl) ?_
        refine TL_pure rfl rfl rfl rfl (op_load_agg ag75 sz75 rfl rfl rfl) ?_
        refine TL_pure rfl rfl rfl rfl (op_fieldAddr fa77_3 rfl rfl) ?_
        refine TL_pure rfl rfl rfl rfl (op_load_agg ag75 sz75 rfl rfl rfl) ?_
        obtain ⟨r24, hr24, hm⟩ := bindS hm
        refine TL_callF (c_laws_eqTerm p0.Sum p1.Sum r24 hr24) Try.call101 rfl rfl rfl rfl rfl ?_
        refine TL_pure rfl rfl rfl rfl (op_not rfl) ?_
        refine TL_nil ?_
        refine T_cond rfl (fun hq => ?_) (fun hq => ?_)
        · replace hm := condT hq hm
          refine T_seq ?_
          refine T_region ?_
          refine TL_pure rfl rfl rfl rfl (op_assign rfl) ?_
          refine TL_nil ?_
          refine T_keepH [4] [] rfl rfl rfl rfl (by rw [hF]; rfl) ?_
          refine T_ret ?_
          obtain rfl := someI hm
          refine ⟨[_], [], ⟨rfl, trivial⟩, ?_, rfl, rfl, rfl, rfl⟩
          rfl
        · replace hm := condF hq hm
          refine T_skip ?_
          refine T_seq ?_
          refine T_seq ?_
          refine T_region ?_
          refine TL_pure rfl rfl rfl rfl (op_fieldAddr fa77_4 rfl rfl) ?_
          refine TL_pure rfl rfl rfl rfl (op_load_agg ag75 sz75 rfl rfl rfl) ?_
          refine TL_pure rfl rfl rfl rfl (op_fieldAddr fa77_4 rfl rfl) ?_
          refine TL_pure rfl rfl rfl rfl (op_load_agg ag75 sz75 rfl rfl rfl) ?_
          obtain ⟨r30, hr30, hm⟩ := bindS hm
          refine TL_callF (c_laws_eqTerm p0.Index p1.Index r30 hr30) Try.call101 rfl rfl rfl rfl rfl ?_
          refine TL_pure rfl rfl rfl rfl (op_not rfl) ?_
          refine TL_nil ?_
          refine T_cond rfl (fun hq => ?_) (fun hq => ?_)
          · replace hm := condT hq hm
            refine T_seq ?_
            refine T_region ?_
            refine TL_pure rfl rfl rfl rfl (op_assign rfl) ?_
            refine TL_nil ?_
            refine T_keepH [4] [] rfl rfl rfl rfl (by rw [hF]; rfl) ?_
            refine T_ret ?_
            obtain rfl := someI hm
            refine ⟨[_], [], ⟨rfl, trivial⟩, ?_, rfl, rfl, rfl, rfl⟩
            rfl
          · replace hm := condF hq hm
            refine T_skip ?_
            refine T_seq ?_
            refine T_seq ?_
            refine T_region ?_
            refine TL_pure rfl rfl rfl rfl (op_fieldAddr fa77_5 rfl rfl) ?_
            refine TL_pure rfl rfl rfl rfl (op_load_one ag24 rfl rfl) ?_
            refine TL_pure rfl rfl rfl rfl (op_fieldAddr fa77_5 rfl rfl) ?_
            refine TL_pure rfl rfl rfl rfl (op_load_one ag24 rfl rfl) ?_
            obtain ⟨r36, hr36, hm⟩ := bindS hm
            refine TL_callF (c_laws_eqTermS p0.Facts p1.Facts r36 hr36) Try.call68 rfl rfl rfl rfl rfl ?_
            refine TL_pure rfl rfl rfl rfl (op_not rfl) ?_
            refine TL_nil ?_
            refine T_cond rfl (fun hq => ?_) (fun hq => ?_)
            · replace hm := condT hq hm
              refine T_seq ?_
              refine T_region ?_
              refine TL_pure rfl rfl rfl rfl (op_assign rfl) ?_
              refine TL_nil ?_
              refine T_keepH [4] [] rfl rfl rfl rfl (by rw [hF]; rfl) ?_
              refine T_ret ?_
              obtain rfl := someI hm
              refine ⟨[_], [], ⟨rfl, trivial⟩, ?_, rfl, rfl, rfl, rfl⟩
              rfl
            · replace hm := condF hq hm
              refine T_skip ?_
              refine T_seq ?_
              refine T_region ?_
              refine TL_pure rfl rfl rfl rfl (op_assign rfl) ?_
              refine TL_nil ?_
              refine T_keepH [4] [] rfl rfl rfl rfl (by rw [hF]; rfl) ?_
              refine T_ret ?_
              obtain rfl := someI hm
              refine ⟨[_], [], ⟨rfl, trivial⟩, ?_, rfl, rfl, rfl, rfl⟩
              rfl
theorem c_laws_eqStmtS (p0 : List Stmt) (p1 : List Stmt) (out : Bool) (hm : m_laws_eqStmtS p0 p1 = some out) : ACall Try.prog 25 [.sl 8 (List.map a_Stmt p0), .sl 8 (List.map a_Stmt p1)] [] (.bool out) [] := by
  refine ACall.intro Try.func25 rfl Try.ntmps25 rfl (fun F hF => ?_)
  unfold m_laws_eqStmtS at hm
  refine T_seq ?_
  refine T_region ?_
  refine TL_pure rfl rfl rfl rfl (op_assign rfl) ?_
  refine TL_nil ?_
  refine T_seq ?_
  refine T_seq ?_
  refine T_region ?_
  refine TL_pure rfl rfl rfl rfl (op_move rfl) ?_
  refine TL_pure rfl rfl rfl rfl (op_lenT Try.underlying25 rfl (List.length_map _)) ?_
  refine TL_fact (fun _ _ _ hr => RelP.slLen (i := 6) rfl hr) (fun hlen7 => ?_)
  rw [List.length_map] at hlen7
  refine TL_pure rfl rfl rfl rfl (op_move rfl) ?_
  refine TL_pure rfl rfl rfl rfl (op_lenT Try.underlying25 rfl (List.length_map _)) ?_
  refine TL_fact (fun _ _ _ hr => RelP.slLen (i := 8) rfl hr) (fun hlen9 => ?_)
  rw [List.length_map] at hlen9
  refine TL_pure rfl rfl rfl rfl (op_neq rfl rfl) ?_
  refine TL_nil ?_
  refine T_cond rfl (fun hq => ?_) (fun hq => ?_)
  · replace hm := condT hq hm
    refine T_seq ?_
    refine T_region ?_
    refine TL_pure rfl rfl rfl rfl (op_assign rfl) ?_
    refine TL_nil ?_
    refine T_keepH [4] [] rfl rfl rfl rfl (by rw [hF]; rfl) ?_
    refine T_ret ?_
    obtain rfl := someI hm
    refine ⟨[_], [], ⟨rfl, trivial⟩, ?_, rfl, rfl, rfl, rfl⟩
    rfl
  · replace hm := condF hq hm
    refine T_skip ?_
    refine T_seq ?_
    refine T_seq ?_
    refine T_region ?_
    refine TL_pure rfl rfl rfl rfl (op_assign rfl) ?_
    refine TL_nil ?_
    refine T_block ?_
    refine T_keepH [0, 1, 5] [] rfl rfl rfl rfl (by rw [hF]; rfl) ?_
    refine T_loop ?_
    obtain ⟨u0, hl0, hm⟩ := bindS hm
    refine TR_iter2 (m_laws_eqStmtS_L0 p0 p1) (fun (s0 : Int) => ⟨[(0, .sl 8 (List.map a_Stmt p0)), (1, .sl 8 (List.map a_Stmt p1)), (5, .int .i64 s0)], []⟩) (fun u0 => match u0 with | .inl u0 => .exit 0 | .inr u0 => .ret) (fun u0 => match u0 with | .inl u0 => ⟨[], []⟩ | .inr u0 => ⟨[(4, .bool u0)], []⟩) (fun u0 => m_laws_eqStmtS_A0 u0 = some out) hl0 hm (fun u0 hm => ?_) (fun hx0 s0 c0 hm hc0 => ?_)
    · rcases u0 with u0 | u0
      · unfold m_laws_eqStmtS_A0 at hm
        refine T_seq ?_
        refine T_region ?_
        refine TL_pure rfl rfl rfl rfl (op_assign rfl) ?_
        refine TL_nil ?_
        refine T_keepH [4] [] rfl rfl rfl rfl (by rw [hF]; rfl) ?_
        refine T_ret ?_
        obtain rfl := someI hm
        refine ⟨[_], [], ⟨rfl, trivial⟩, ?_, rfl, rfl, rfl, rfl⟩
        rfl
      · unfold m_laws_eqStmtS_A0 at hm
        obtain rfl := someI hm
        refine ⟨[_], [], ⟨rfl, trivial⟩, ?_, rfl, rfl, rfl, rfl⟩
        rfl
    · unfold m_laws_eqStmtS_L0 at hm
      refine T_seq ?_
      refine T_seq ?_
      refine T_region ?_
      refine TL_pure rfl rfl rfl rfl (op_move rfl) ?_
      refine TL_pure rfl rfl rfl rfl (op_move rfl) ?_
      refine TL_pure rfl rfl rfl rfl (op_lenT Try.underlying25 rfl (List.length_map _)) ?_
      refine TL_pure rfl rfl rfl rfl (op_lss rfl rfl) ?_
      refine TL_nil ?_
      refine T_cond rfl (fun hq => ?_) (fun hq => ?_)
      · replace hm := condT hq hm
        refine T_skip ?_
        refine T_seq ?_
        refine T_block ?_
        refine T_seq ?_
        refine T_drawZ [] mix (by kernel_rfl) rfl ?_
        obtain ⟨x19, hx19, hm⟩ := bindS hm
        obtain ⟨x23, hx23, hm⟩ := bindS hm
        obtain ⟨r25, hr25, hm⟩ := bindS hm
        refine TZ_pure 0 (by kernel_rfl) rfl rfl rfl rfl rfl (op_move rfl) ?_
        refine TZ_pure 1 (by kernel_rfl) rfl rfl rfl rfl rfl (op_move rfl) ?_
        refine TZ_pure 2 (by kernel_rfl) rfl rfl rfl rfl rfl (op_indexT el25 rfl rfl hx19 rfl) ?_
        refine TZ_pure 3 (by kernel_rfl) rfl rfl rfl rfl rfl (op_load_agg ag77 sz77 rfl rfl rfl) ?_
        refine TZ_pure 4 (by kernel_rfl) rfl rfl rfl rfl rfl (op_move rfl) ?_
        refine TZ_pure 5 (by kernel_rfl) rfl rfl rfl rfl rfl (op_move rfl) ?_
        refine TZ_pure 6 (by kernel_rfl) rfl rfl rfl rfl rfl (op_indexT el25 rfl rfl hx23 rfl) ?_
        refine TZ_pure 7 (by kernel_rfl) rfl rfl rfl rfl rfl (op_load_agg ag77 sz77 rfl rfl rfl) ?_
        refine TZ_one 8 (by kernel_rfl) rfl ?_
        refine TL_callF (c_laws_eqStmt x19 x23 r25 hr25) Try.call58 rfl rfl rfl rfl rfl ?_
        refine TL_nil ?_
        refine TZ_pure 9 (by kernel_rfl) rfl rfl rfl rfl rfl (op_not rfl) ?_
        refine TZ_done (by kernel_rfl) ?_
        refine T_cond rfl (fun hq => ?_) (fun hq => ?_)
        · replace hm := condT hq hm
          refine T_seq ?_
          refine T_region ?_
          refine TL_pure rfl rfl rfl rfl (op_assign rfl) ?_
          refine TL_nil ?_
          refine T_keepH [4] [] rfl rfl rfl rfl (by rw [hF]; rfl) ?_
          refine T_ret ?_
          obtain rfl := someI hm
          have hn := CtlOK_out hc0
          exact hx0 (.inr false) hn
        · replace hm := condF hq hm
          refine T_skip ?_
          refine T_region ?_
          refine TL_pure rfl rfl rfl rfl (op_move rfl) ?_
          refine TL_pure rfl rfl rfl rfl (op_addW rfl rfl) ?_
          refine TL_pure rfl rfl rfl rfl (op_assign rfl) ?_
          refine TL_nil ?_
          refine TR_keepH [0, 1, 5] [] rfl rfl rfl rfl (by rw [hF]; rfl) ?_
          obtain rfl := someI hm
          have hn := CtlOK_next hc0
          exact hn _ rfl
      · replace hm := condF hq hm
        refine T_keepH [] [] rfl rfl rfl rfl (by rw [hF]; rfl) ?_
        refine T_exit ?_
        obtain rfl := someI hm
        have hn := CtlOK_out hc0
        exact hx0 (.inl ()) hn
theorem c_laws_eqProgram (p0 : Program) (p1 : Program) (out : Bool) (hm : m_laws_eqProgram p0 p1 = some out) : ACall Try.prog 31 [.agg [.sl 2 (List.map a_Term p0.Pre), .sl 8 (List.map a_Stmt p0.Body), .sl 2 (List.map a_Term p0.Post)], .agg [.sl 2 (List.map a_Term p1.Pre), .sl 8 (List.map a_Stmt p1.Body), .sl 2 (List.map a_Term p1.Post)]] [] (.bool out) [] := by
  refine ACall.intro Try.func31 rfl Try.ntmps31 rfl (fun F hF => ?_)
  unfold m_laws_eqProgram at hm
  refine T_seq ?_
  refine T_region ?_
  refine TL_box 11 rfl rfl rfl rfl rfl rfl rfl ?_
  refine TL_box 12 rfl rfl rfl rfl rfl rfl rfl ?_
  refine TL_pure rfl rfl rfl rfl (op_assign rfl) ?_
  refine TL_nil ?_
  refine T_seq ?_
  refine T_seq ?_
  refine T_region ?_
  refine TL_pure rfl rfl rfl rfl (op_fieldAddr fa27_0 rfl rfl) ?_
  refine TL_pure rfl rfl rfl rfl (op_load_one ag24 rfl rfl) ?_
  refine TL_pure rfl rfl rfl rfl (op_fieldAddr fa27_0 rfl rfl) ?_
  refine TL_pure rfl rfl rfl rfl (op_load_one ag24 rfl rfl) ?_
  obtain ⟨r9, hr9, hm⟩ := bindS hm
  refine TL_callF (c_laws_eqTermS p0.Pre p1.Pre r9 hr9) Try.call68 rfl rfl rfl rfl rfl ?_
  refine TL_pure rfl rfl rfl rfl (op_not rfl) ?_
  refine TL_nil ?_
  refine T_cond rfl (fun hq => ?_) (fun hq => ?_)
  · replace hm := condT hq hm
    refine T_seq ?_
    refine T_region ?_
    refine TL_pure rfl rfl rfl rfl (op_assign rfl) ?_
    refine TL_nil ?_
    refine T_keepH [4] [] rfl rfl rfl rfl (by rw [hF]; rfl) ?_
    refine T_ret ?_
    obtain rfl := someI hm
    refine ⟨[_], [], ⟨rfl, trivial⟩, ?_, rfl, rfl, rfl, rfl⟩
    rfl
  · replace hm := condF hq hm
    refine T_skip ?_
    refine T_seq ?_
    refine T_seq ?_
    refine T_region ?_
    refine TL_pure rfl rfl rfl rfl (op_fieldAddr fa27_1 rfl rfl) ?_
    refine TL_pure rfl rfl rfl rfl (op_load_one ag25 rfl rfl) ?_
    refine TL_pure rfl rfl rfl rfl (op_fieldAddr fa27_1 rfl rfl) ?_
    refine TL_pure rfl rfl rfl rfl (op_load_one ag25 rfl rfl) ?_
    obtain ⟨r15, hr15, hm⟩ := bindS hm
    refine TL_callF (c_laws_eqStmtS p0.Body p1.Body r15 hr15) Try.call25 rfl rfl rfl rfl rfl ?_
    refine TL_pure rfl rfl rfl rfl (op_not rfl) ?_
    refine TL_nil ?_
    refine T_cond rfl (fun hq => ?_) (fun hq => ?_)
    · replace hm := condT hq hm
      refine T_seq ?_
      refine T_region ?_
      refine TL_pure rfl rfl rfl rfl (op_assign rfl) ?_
      refine TL_nil ?_
      refine T_keepH [4] [] rfl rfl rfl rfl (by rw [hF]; rfl) ?_
      refine T_ret ?_
      obtain rfl := someI hm
      refine ⟨[_], [], ⟨rfl, trivial⟩, ?_, rfl, rfl, rfl, rfl⟩
      rfl
    · replace hm := condF hq hm
      refine T_skip ?_
      refine T_seq ?_
      refine T_seq ?_
      refine T_region ?_
      refine TL_pure rfl rfl rfl rfl (op_fieldAddr fa27_2 rfl rfl) ?_
      refine TL_pure rfl rfl rfl rfl (op_load_one ag24 rfl rfl) ?_
      refine TL_pure rfl rfl rfl rfl (op_fieldAddr fa27_2 rfl rfl) ?_
      refine TL_pure rfl rfl rfl rfl (op_load_one ag24 rfl rfl) ?_
      obtain ⟨r21, hr21, hm⟩ := bindS hm
      refine TL_callF (c_laws_eqTermS p0.Post p1.Post r21 hr21) Try.call68 rfl rfl rfl rfl rfl ?_
      refine TL_pure rfl rfl rfl rfl (op_not rfl) ?_
      refine TL_nil ?_
      refine T_cond rfl (fun hq => ?_) (fun hq => ?_)
      · replace hm := condT hq hm
        refine T_seq ?_
        refine T_region ?_
        refine TL_pure rfl rfl rfl rfl (op_assign rfl) ?_
        refine TL_nil ?_
        refine T_keepH [4] [] rfl rfl rfl rfl (by rw [hF]; rfl) ?_
        refine T_ret ?_
        obtain rfl := someI hm
        refine ⟨[_], [], ⟨rfl, trivial⟩, ?_, rfl, rfl, rfl, rfl⟩
        rfl
      · replace hm := condF hq hm
        refine T_skip ?_
        refine T_seq ?_
        refine T_region ?_
        refine TL_pure rfl rfl rfl rfl (op_assign rfl) ?_
        refine TL_nil ?_
        refine T_keepH [4] [] rfl rfl rfl rfl (by rw [hF]; rfl) ?_
        refine T_ret ?_
        obtain rfl := someI hm
        refine ⟨[_], [], ⟨rfl, trivial⟩, ?_, rfl, rfl, rfl, rfl⟩
        rfl
theorem c_laws_markInt64S (p0 : List Int) (p1 : Int) (out : Int × (List Int)) (hm : m_laws_markInt64S p0 p1 = some out) (E0 : TypeId) : ACall Try.prog 59 [.ow 0, .int .i64 p1] [(0, .arr ⟨true, true⟩ 1 E0 (List.map a_i64 p0))] (.int .i64 out.1) [(0, .arr ⟨true, true⟩ 1 E0 (List.map a_i64 out.2))] := by
  refine ACall.intro Try.func59 rfl Try.ntmps59 rfl (fun F hF => ?_)
  unfold m_laws_markInt64S at hm
  refine T_seq ?_
  refine T_region ?_
  refine TL_pure rfl rfl rfl rfl (op_assign rfl) ?_
  refine TL_nil ?_
  refine T_seq ?_
  refine T_seq ?_
  refine T_region ?_
  refine TL_pure rfl rfl rfl rfl (op_assign rfl) ?_
  refine TL_nil ?_
  refine T_block ?_
  refine T_keepH [0, 1, 5] [0] rfl rfl rfl rfl (by rw [hF]; rfl) ?_
  refine T_loop ?_
  obtain ⟨u0, hl0, hm⟩ := bindS hm
  refine TR_iter2 (m_laws_markInt64S_L0) (fun (s0 : (List Int) × Int × Int) => ⟨[(0, .ow 0), (1, .int .i64 s0.2.1), (5, .int .i64 s0.2.2)], [(0, .arr ⟨true, true⟩ 1 E0 (List.map a_i64 s0.1))]⟩) (fun u0 => .exit 0) (fun u0 => ⟨[(1, .int .i64 u0.1)], [(0, .arr ⟨true, true⟩ 1 E0 (List.map a_i64 u0.2))]⟩) (fun u0 => m_laws_markInt64S_A0 u0 = some out) hl0 hm (fun u0 hm => ?_) (fun hx0 s0 c0 hm hc0 => ?_)
  · unfold m_laws_markInt64S_A0 at hm
    refine T_seq ?_
    refine T_region ?_
    refine TL_pure rfl rfl rfl rfl (op_move rfl) ?_
    refine TL_pure rfl rfl rfl rfl (op_assign rfl) ?_
    refine TL_nil ?_
    refine T_keepH [4] [0] rfl rfl rfl rfl (by rw [hF]; rfl) ?_
    refine T_ret ?_
    obtain rfl := someI hm
    refine ⟨[_], [0], ⟨rfl, trivial⟩, ?_, rfl, rfl, rfl, rfl⟩
    rfl
  · unfold m_laws_markInt64S_L0 at hm
    refine T_seq ?_
    refine T_seq ?_
    refine T_region ?_
    refine TL_pure rfl rfl rfl rfl (op_move rfl) ?_
    refine TL_pure rfl rfl rfl rfl (op_move rfl) ?_
    refine TL_pure rfl rfl rfl rfl (op_lenO Try.underlying29 rfl rfl (List.length_map _)) ?_
    refine TL_fact (fun _ _ _ hr => RelP.owLen (id := 0) rfl hr) (fun hlen8 => ?_)
    rw [List.length_map] at hlen8
    refine TL_pure rfl rfl rfl rfl (op_lss rfl rfl) ?_
    refine TL_nil ?_
    refine T_cond rfl (fun hq => ?_) (fun hq => ?_)
    · replace hm := condT hq hm
      refine T_skip ?_
      refine T_seq ?_
      refine T_block ?_
      refine T_seq ?_
      refine T_region ?_
      refine TL_pure rfl rfl rfl rfl (op_move rfl) ?_
      refine TL_pure rfl rfl rfl rfl (op_move rfl) ?_
      refine TL_pure rfl rfl rfl rfl (op_move rfl) ?_
      obtain ⟨x15, hx15, hm⟩ := bindS hm
      refine TL_pure rfl rfl rfl rfl (op_indexO el29 rfl rfl rfl hx15) ?_
      refine TL_storeFT sz2 rfl rfl ((getI_spec hx15).2) (v' := s0.2.1) rfl rfl rfl rfl rfl rfl rfl rfl rfl ?_
      refine TL_nil ?_
      refine T_region ?_
      refine TL_pure rfl rfl rfl rfl (op_move rfl) ?_
      refine TL_pure rfl rfl rfl rfl (op_addW rfl rfl) ?_
      refine TL_pure rfl rfl rfl rfl (op_assign rfl) ?_
      refine TL_nil ?_
      refine T_region ?_
      refine TL_pure rfl rfl rfl rfl (op_move rfl) ?_
      refine TL_pure rfl rfl rfl rfl (op_addW rfl rfl) ?_
      refine TL_pure rfl rfl rfl rfl (op_assign rfl) ?_
      refine TL_nil ?_
      refine TR_keepH [0, 1, 5] [0] rfl rfl rfl rfl (by rw [hF]; rfl) ?_
      obtain rfl := someI hm
      have hn := CtlOK_next hc0
      exact hn _ rfl
    · replace hm := condF hq hm
      refine T_keepH [1] [0] rfl rfl rfl rfl (by rw [hF]; rfl) ?_
      refine T_exit ?_
      obtain rfl := someI hm
      have hn := CtlOK_out hc0
      exact hx0 (s0.2.1, s0.1) hn
theorem c_laws_markTermS (p0 : List Term) (p1 : Int) (out : Int × (List Term)) (hm : m_laws_markTermS p0 p1 = some out) (E0 : TypeId) : ACall Try.prog 60 [.ow 0, .int .i64 p1] [(0, .arr ⟨true, true⟩ 2 E0 (List.map a_Term p0))] (.int .i64 out.1) [(0, .arr ⟨true, true⟩ 2 E0 (List.map a_Term out.2))] := by
  refine ACall.intro Try.func60 rfl Try.ntmps60 rfl (fun F hF => ?_)
  unfold m_laws_markTermS at hm
  refine T_seq ?_
  refine T_region ?_
  refine TL_pure rfl rfl rfl rfl (op_assign rfl) ?_
  refine TL_nil ?_
  refine T_seq ?_
  refine T_seq ?_
  refine T_region ?_
  refine TL_pure rfl rfl rfl rfl (op_assign rfl) ?_
  refine TL_nil ?_
  refine T_block ?_
  refine T_keepH [0, 1, 5] [0] rfl rfl rfl rfl (by rw [hF]; rfl) ?_
  refine T_loop ?_
  obtain ⟨u0, hl0, hm⟩ := bindS hm
  refine TR_iter2 (m_laws_markTermS_L0) (fun (s0 : (List Term) × Int × Int) => ⟨[(0, .ow 0), (1, .int .i64 s0.2.1), (5, .int .i64 s0.2.2)], [(0, .arr ⟨true, true⟩ 2 E0 (List.map a_Term s0.1))]⟩) (fun u0 => .exit 0) (fun u0 => ⟨[(1, .int .i64 u0.1)], [(0, .arr ⟨true, true⟩ 2 E0 (List.map a_Term u0.2))]⟩) (fun u0 => m_laws_markTermS_A0 u0 = some out) hl0 hm (fun u0 hm => ?_) (fun hx0 s0 c0 hm hc0 => ?_)
  · unfold m_laws_markTermS_A0 at hm
    refine T_seq ?_
    refine T_region ?_
    refine TL_pure rfl rfl rfl rfl (op_move rfl) ?_
    refine TL_pure rfl rfl rfl rfl (op_assign rfl) ?_
    refine TL_nil ?_
    refine T_keepH [4] [0] rfl rfl rfl rfl (by rw [hF]; rfl) ?_
    refine T_ret ?_
    obtain rfl := someI hm
    refine ⟨[_], [0], ⟨rfl, trivial⟩, ?_, rfl, rfl, rfl, rfl⟩
    rfl
  · unfold m_laws_markTermS_L0 at hm
    refine T_seq ?_
    refine T_seq ?_
    refine T_region ?_
    refine TL_pure rfl rfl rfl rfl (op_move rfl) ?_
    refine TL_pure rfl rfl rfl rfl (op_move rfl) ?_
    refine TL_pure rfl rfl rfl rfl (op_lenO Try.underlying24 rfl rfl (List.length_map _)) ?_
    refine TL_fact (fun _ _ _ hr => RelP.owLen (id := 0) rfl hr) (fun hlen8 => ?_)
    rw [List.length_map] at hlen8
    refine TL_pure rfl rfl rfl rfl (op_lss rfl rfl) ?_
    refine TL_nil ?_
    refine T_cond rfl (fun hq => ?_) (fun hq => ?_)
    · replace hm := condT hq hm
      refine T_skip ?_
      refine T_seq ?_
      refine T_block ?_
      refine T_seq ?_
      refine T_region ?_
      refine TL_pure rfl rfl rfl rfl (op_move rfl) ?_
      refine TL_pure rfl rfl rfl rfl (op_move rfl) ?_
      refine TL_pure rfl rfl rfl rfl (op_move rfl) ?_
      obtain ⟨x15, hx15, hm⟩ := bindS hm
      refine TL_pure rfl rfl rfl rfl (op_indexO el24 rfl rfl rfl hx15) ?_
      refine TL_pure rfl rfl rfl rfl (op_fieldAddr fa75_0 rfl rfl) ?_
      refine TL_storeFT sz2 rfl rfl ((getI_spec hx15).2) (v' := (Term.mk s0.2.1 x15.Coeffs)) rfl rfl rfl rfl rfl rfl rfl rfl rfl ?_
      refine TL_nil ?_
      refine T_seq ?_
      refine T_region ?_
      refine TL_pure rfl rfl rfl rfl (op_move rfl) ?_
      refine TL_pure rfl rfl rfl rfl (op_addW rfl rfl) ?_
      refine TL_pure rfl rfl rfl rfl (op_assign rfl) ?_
      refine TL_nil ?_
      refine T_region ?_
      refine TL_pure rfl rfl rfl rfl (op_move rfl) ?_
      refine TL_pure rfl rfl rfl rfl (op_move rfl) ?_
      obtain ⟨x21, hx21, hm⟩ := bindS hm
      refine TL_pure rfl rfl rfl rfl (op_indexO el24 rfl rfl rfl hx21) ?_
      refine TL_pure rfl rfl rfl rfl (op_fieldAddr fa75_1 rfl rfl) ?_
      refine TL_pure rfl rfl rfl rfl (op_loadD1 ag29 rfl rfl ((getI_spec hx21).2) rfl rfl rfl rfl) ?_
      refine TL_pure rfl rfl rfl rfl (op_move rfl) ?_
      obtain ⟨r25, hr25, hm⟩ := bindS hm
      refine TL_callSub (id := 0) (i := (s0.2.2).toNat) (j := 1) (e' := a_Term (Term.mk x21.Const r25.2)) (es' := List.map a_Term ((s0.1.set ((s0.2.2).toNat) (Term.mk s0.2.1 x15.Coeffs)).set ((s0.2.2).toNat) (Term.mk x21.Const r25.2))) (fun E' => c_laws_markInt64S x21.Coeffs (w64 (s0.2.1 + (1 : Int))) r25 hr25 E') Try.call59 rfl rfl (get_map ((getI_spec hx21).2)) rfl rfl rfl rfl ⟨.inl ⟨rfl, rfl⟩, .inr ⟨rfl, rfl⟩, trivial⟩ rfl rfl rfl (List.map_set) rfl rfl rfl ?_
      refine TL_pure rfl rfl rfl rfl (op_assign rfl) ?_
      refine TL_nil ?_
      refine T_region ?_
      refine TL_pure rfl rfl rfl rfl (op_move rfl) ?_
      refine TL_pure rfl rfl rfl rfl (op_addW rfl rfl) ?_
      refine TL_pure rfl rfl rfl rfl (op_assign rfl) ?_
      refine TL_nil ?_
      refine TR_keepH [0, 1, 5] [0] rfl rfl rfl rfl (by rw [hF]; rfl) ?_
      obtain rfl := someI hm
      have hn := CtlOK_next hc0
      exact hn _ rfl
    · replace hm := condF hq hm
      refine T_keepH [1] [0] rfl rfl rfl rfl (by rw [hF]; rfl) ?_
      refine T_exit ?_
      obtain rfl := someI hm
      have hn := CtlOK_out hc0
      exact hx0 (s0.2.1, s0.1) hn
theorem c_laws_markStmtS (p0 : List Stmt) (p1 : Int) (out : Int × (List Stmt)) (hm : m_laws_markStmtS p0 p1 = some out) (E0 : TypeId) : ACall Try.prog 26 [.ow 0, .int .i64 p1] [(0, .arr ⟨true, true⟩ 8 E0 (List.map a_Stmt p0))] (.int .i64 out.1) [(0, .arr ⟨true, true⟩ 8 E0 (List.map a_Stmt out.2))] := by
  refine ACall.intro Try.func26 rfl Try.ntmps26 rfl (fun F hF => ?_)
  unfold m_laws_markStmtS at hm
  refine T_seq ?_
  refine T_region ?_
  refine TL_pure rfl rfl rfl rfl (op_assign rfl) ?_
  refine TL_nil ?_
  refine T_seq ?_
  refine T_seq ?_
  refine T_region ?_
  refine TL_pure rfl rfl rfl rfl (op_assign rfl) ?_
  refine TL_nil ?_
  refine T_block ?_
  refine T_keepH [0, 1, 5] [0] rfl rfl rfl rfl (by rw [hF]; rfl) ?_
  refine T_loop ?_
  obtain ⟨u0, hl0, hm⟩ := bindS hm
  refine TR_iter2 (m_laws_markStmtS_L0) (fun (s0 : (List Stmt) × Int × Int) => ⟨[(0, .ow 0), (1, .int .i64 s0.2.1), (5, .int .i64 s0.2.2)], [(0, .arr ⟨true, true⟩ 8 E0 (List.map a_Stmt s0.1))]⟩) (fun u0 => .exit 0) (fun u0 => ⟨[(1, .int .i64 u0.1)], [(0, .arr ⟨true, true⟩ 8 E0 (List.map a_Stmt u0.2))]⟩) (fun u0 => m_laws_markStmtS_A0 u0 = some out) hl0 hm (fun u0 hm => ?_) (fun hx0 s0 c0 hm hc0 => ?_)
  · unfold m_laws_markStmtS_A0 at hm
    refine T_seq ?_
    refine T_region ?_
    refine TL_pure rfl rfl rfl rfl (op_move rfl) ?_
    refine TL_pure rfl rfl rfl rfl (op_assign rfl) ?_
    refine TL_nil ?_
    refine T_keepH [4] [0] rfl rfl rfl rfl (by rw [hF]; rfl) ?_
    refine T_ret ?_
    obtain rfl := someI hm
    refine ⟨[_], [0], ⟨rfl, trivial⟩, ?_, rfl, rfl, rfl, rfl⟩
    rfl
  · unfold m_laws_markStmtS_L0 at hm
    refine T_seq ?_
    refine T_seq ?_
    refine T_region ?_
    refine TL_pure rfl rfl rfl rfl (op_move rfl) ?_
    refine TL_pure rfl rfl rfl rfl (op_move rfl) ?_
    refine TL_pure rfl rfl rfl rfl (op_lenO Try.underlying25 rfl rfl (List.length_map _)) ?_
    refine TL_fact (fun _ _ _ hr => RelP.owLen (id := 0) rfl hr) (fun hlen8 => ?_)
    rw [List.length_map] at hlen8
    refine TL_pure rfl rfl rfl rfl (op_lss rfl rfl) ?_
    refine TL_nil ?_
    refine T_cond rfl (fun hq => ?_) (fun hq => ?_)
    · replace hm := condT hq hm
      refine T_skip ?_
      refine T_seq ?_
      refine T_block ?_
      refine T_seq ?_
      refine T_region ?_
      refine TL_pure rfl rfl rfl rfl (op_move rfl) ?_
      refine TL_pure rfl rfl rfl rfl (op_move rfl) ?_
      refine TL_pure rfl rfl rfl rfl (op_move rfl) ?_
      obtain ⟨x15, hx15, hm⟩ := bindS hm
      refine TL_pure rfl rfl rfl rfl (op_indexO el25 rfl rfl rfl hx15) ?_
      refine TL_pure rfl rfl rfl rfl (op_fieldAddr fa77_0 rfl rfl) ?_
      refine TL_storeFT sz2 rfl rfl ((getI_spec hx15).2) (v' := (Stmt.mk s0.2.1 x15.Var x15.Event x15.Sum x15.Index x15.Facts)) rfl rfl rfl rfl rfl rfl rfl rfl rfl ?_
      refine TL_nil ?_
      refine T_seq ?_
      refine T_region ?_
      refine TL_pure rfl rfl rfl rfl (op_move rfl) ?_
      refine TL_pure rfl rfl rfl rfl (op_addW rfl rfl) ?_
      refine TL_pure rfl rfl rfl rfl (op_assign rfl) ?_
      refine TL_nil ?_
      refine T_seq ?_
      refine T_region ?_
      refine TL_pure rfl rfl rfl rfl (op_move rfl) ?_
      refine TL_pure rfl rfl rfl rfl (op_move rfl) ?_
      refine TL_pure rfl rfl rfl rfl (op_move rfl) ?_
      obtain ⟨x22, hx22, hm⟩ := bindS hm
      refine TL_pure rfl rfl rfl rfl (op_indexO el25 rfl rfl rfl hx22) ?_
      refine TL_pure rfl rfl rfl rfl (op_fieldAddr fa77_1 rfl rfl) ?_
      refine TL_storeFT sz2 rfl rfl ((getI_spec hx22).2) (v' := (Stmt.mk x22.Kind (w64 (s0.2.1 + (1 : Int))) x22.Event x22.Sum x22.Index x22.Facts)) rfl rfl rfl rfl rfl rfl rfl rfl rfl ?_
      refine TL_nil ?_
      refine T_seq ?_
      refine T_region ?_
      refine TL_pure rfl rfl rfl rfl (op_move rfl) ?_
      refine TL_pure rfl rfl rfl rfl (op_addW rfl rfl) ?_
      refine TL_pure rfl rfl rfl rfl (op_assign rfl) ?_
      refine TL_nil ?_
      refine T_seq ?_
      refine T_region ?_
      refine TL_pure rfl rfl rfl rfl (op_move rfl) ?_
      refine TL_pure rfl rfl rfl rfl (op_move rfl) ?_
      refine TL_pure rfl rfl rfl rfl (op_move rfl) ?_
      obtain ⟨x29, hx29, hm⟩ := bindS hm
      refine TL_pure rfl rfl rfl rfl (op_indexO el25 rfl rfl rfl hx29) ?_
      refine TL_pure rfl rfl rfl rfl (op_fieldAddr fa77_2 rfl rfl) ?_
      refine TL_storeFT sz2 rfl rfl ((getI_spec hx29).2) (v' := (Stmt.mk x29.Kind x29.Var (w64 ((w64 (s0.2.1 + (1 : Int))) + (1 : Int))) x29.Sum x29.Index x29.Facts)) rfl rfl rfl rfl rfl rfl rfl rfl rfl ?_
      refine TL_nil ?_
      refine T_seq ?_
      refine T_region ?_
      refine TL_pure rfl rfl rfl rfl (op_move rfl) ?_
      refine TL_pure rfl rfl rfl rfl (op_addW rfl rfl) ?_
      refine TL_pure rfl rfl rfl rfl (op_assign rfl) ?_
      refine TL_nil ?_
      refine T_seq ?_
      refine T_region ?_
      refine TL_pure rfl rfl rfl rfl (op_move rfl) ?_
      refine TL_pure rfl rfl rfl rfl (op_move rfl) ?_
      refine TL_pure rfl rfl rfl rfl (op_move rfl) ?_
      obtain ⟨x36, hx36, hm⟩ := bindS hm
      refine TL_pure rfl rfl rfl rfl (op_indexO el25 rfl rfl rfl hx36) ?_
      refine TL_pure rfl rfl rfl rfl (op_fieldAddr fa77_3 rfl rfl) ?_
      refine TL_pure rfl rfl rfl rfl (op_fieldAddr fa75_0 rfl rfl) ?_
      refine TL_storeFT sz2 rfl rfl ((getI_spec hx36).2) (v' := (Stmt.mk x36.Kind x36.Var x36.Event (Term.mk (w64 ((w64 ((w64 (s0.2.1 + (1 : Int))) + (1 : Int))) + (1 : Int))) x36.Sum.Coeffs) x36.Index x36.Facts)) rfl rfl rfl rfl rfl rfl rfl rfl rfl ?_
      refine TL_nil ?_
      refine T_seq ?_
      refine T_region ?_
      refine TL_pure rfl rfl rfl rfl (op_move rfl) ?_
      refine TL_pure rfl rfl rfl rfl (op_addW rfl rfl) ?_
      refine TL_pure rfl rfl rfl rfl (op_assign rfl) ?_
      refine TL_nil ?_
      refine T_seq ?_
      refine T_region ?_
      refine TL_pure rfl rfl rfl rfl (op_move rfl) ?_
      refine TL_pure rfl rfl rfl rfl (op_move rfl) ?_
      obtain ⟨x43, hx43, hm⟩ := bindS hm
      refine TL_pure rfl rfl rfl rfl (op_indexO el25 rfl rfl rfl hx43) ?_
      refine TL_pure rfl rfl rfl rfl (op_fieldAddr fa77_3 rfl rfl) ?_
      refine TL_pure rfl rfl rfl rfl (op_fieldAddr fa75_1 rfl rfl) ?_
      refine TL_pure rfl rfl rfl rfl (op_loadD1 ag29 rfl rfl ((getI_spec hx43).2) rfl rfl rfl rfl) ?_
      refine TL_pure rfl rfl rfl rfl (op_move rfl) ?_
      obtain ⟨r48, hr48, hm⟩ := bindS hm
      refine TL_callSub (id := 0) (i := (s0.2.2).toNat) (j := 4) (e' := a_Stmt (Stmt.mk x43.Kind x43.Var x43.Event (Term.mk x43.Sum.Const r48.2) x43.Index x43.Facts)) (es' := List.map a_Stmt (((((s0.1.set ((s0.2.2).toNat) (Stmt.mk s0.2.1 x15.Var x15.Event x15.Sum x15.Index x15.Facts)).set ((s0.2.2).toNat) (Stmt.mk x22.Kind (w64 (s0.2.1 + (1 : Int))) x22.Event x22.Sum x22.Index x22.Facts)).set ((s0.2.2).toNat) (Stmt.mk x29.Kind x29.Var (w64 ((w64 (s0.2.1 + (1 : Int))) + (1 : Int))) x29.Sum x29.Index x29.Facts)).set ((s0.2.2).toNat) (Stmt.mk x36.Kind x36.Var x36.Event (Term.mk (w64 ((w64 ((w64 (s0.2.1 + (1 : Int))) + (1 : Int))) + (1 : Int))) x36.Sum.Coeffs) x36.Index x36.Facts)).set ((s0.2.2).toNat) (Stmt.mk x43.Kind x43.Var x43.Event (Term.mk x43.Sum.Const r48.2) x43.Index x43.Facts))) (fun E' => c_laws_markInt64S x43.Sum.Coeffs (w64 ((w64 ((w64 ((w64 (s0.2.1 + (1 : Int))) + (1 : Int))) + (1 : Int))) + (1 : Int))) r48 hr48 E') Try.call59 rfl rfl (get_map ((getI_spec hx43).2)) rfl rfl rfl rfl ⟨.inl ⟨rfl, rfl⟩, .inr ⟨rfl, rfl⟩, trivial⟩ rfl rfl rfl (List.map_set) rfl rfl rfl ?_
      refine TL_pure rfl rfl rfl rfl (op_assign rfl) ?_
      refine TL_nil ?_
      refine T_seq ?_
      refine T_region ?_
      refine TL_pure rfl rfl rfl rfl (op_move rfl) ?_
      refine TL_pure rfl rfl rfl rfl (op_move rfl) ?_
      refine TL_pure rfl rfl rfl rfl (op_move rfl) ?_
      obtain ⟨x52, hx52, hm⟩ := bindS hm
      refine TL_pure rfl rfl rfl rfl (op_indexO el25 rfl rfl rfl hx52) ?_
      refine TL_pure rfl rfl rfl rfl (op_fieldAddr fa77_4 rfl rfl) ?_
      refine TL_pure rfl rfl rfl rfl (op_fieldAddr fa75_0 rfl rfl) ?_
      refine TL_storeFT sz2 rfl rfl ((getI_spec hx52).2) (v' := (Stmt.mk x52.Kind x52.Var x52.Event x52.Sum (Term.mk r48.1 x52.Index.Coeffs) x52.Facts)) rfl rfl rfl rfl rfl rfl rfl rfl rfl ?_
      refine TL_nil ?_
      refine T_seq ?_
      refine T_region ?_
      refine TL_pure rfl rfl rfl rfl (op_move rfl) ?_
      refine TL_pure rfl rfl rfl rfl (op_addW rfl rfl) ?_
      refine TL_pure rfl rfl rfl rfl (op_assign rfl) ?_
      refine TL_nil ?_
      refine T_seq ?_
      refine T_region ?_
      refine TL_pure rfl rfl rfl rfl (op_move rfl) ?_
      refine TL_pure rfl rfl rfl rfl (op_move rfl) ?_
      obtain ⟨x59, hx59, hm⟩ := bindS hm
      refine TL_pure rfl rfl rfl rfl (op_indexO el25 rfl rfl rfl hx59) ?_
      refine TL_pure rfl rfl rfl rfl (op_fieldAddr fa77_4 rfl rfl) ?_
      refine TL_pure rfl rfl rfl rfl (op_fieldAddr fa75_1 rfl rfl) ?_
      refine TL_pure rfl rfl rfl rfl (op_loadD1 ag29 rfl rfl ((getI_spec hx59).2) rfl rfl rfl rfl) ?_
      refine TL_pure rfl rfl rfl rfl (op_move rfl) ?_
      obtain ⟨r64, hr64, hm⟩ := bindS hm
      refine TL_callSub (id := 0) (i := (s0.2.2).toNat) (j := 6) (e' := a_Stmt (Stmt.mk x59.Kind x59.Var x59.Event x59.Sum (Term.mk x59.Index.Const r64.2) x59.Facts)) (es' := List.map a_Stmt (((((((s0.1.set ((s0.2.2).toNat) (Stmt.mk s0.2.1 x15.Var x15.Event x15.Sum x15.Index x15.Facts)).set ((s0.2.2).toNat) (Stmt.mk x22.Kind (w64 (s0.2.1 + (1 : Int))) x22.Event x22.Sum x22.Index x22.Facts)).set ((s0.2.2).toNat) (Stmt.mk x29.Kind x29.Var (w64 ((w64 (s0.2.1 + (1 : Int))) + (1 : Int))) x29.Sum x29.Index x29.Facts)).set ((s0.2.2).toNat) (Stmt.mk x36.Kind x36.Var x36.Event (Term.mk (w64 ((w64 ((w64 (s0.2.1 + (1 : Int))) + (1 : Int))) + (1 : Int))) x36.Sum.Coeffs) x36.Index x36.Facts)).set ((s0.2.2).toNat) (Stmt.mk x43.Kind x43.Var x43.Event (Term.mk x43.Sum.Const r48.2) x43.Index x43.Facts)).set ((s0.2.2).toNat) (Stmt.mk x52.Kind x52.Var x52.Event x52.Sum (Term.mk r48.1 x52.Index.Coeffs) x52.Facts)).set ((s0.2.2).toNat) (Stmt.mk x59.Kind x59.Var x59.Event x59.Sum (Term.mk x59.Index.Const r64.2) x59.Facts))) (fun E' => c_laws_markInt64S x59.Index.Coeffs (w64 (r48.1 + (1 : Int))) r64 hr64 E') Try.call59 rfl rfl (get_map ((getI_spec hx59).2)) rfl rfl rfl rfl ⟨.inl ⟨rfl, rfl⟩, .inr ⟨rfl, rfl⟩, trivial⟩ rfl rfl rfl (List.map_set) rfl rfl rfl ?_
      refine TL_pure rfl rfl rfl rfl (op_assign rfl) ?_
      refine TL_nil ?_
      refine T_region ?_
      refine TL_pure rfl rfl rfl rfl (op_move rfl) ?_
      refine TL_pure rfl rfl rfl rfl (op_move rfl) ?_
      obtain ⟨x67, hx67, hm⟩ := bindS hm
      refine TL_pure rfl rfl rfl rfl (op_indexO el25 rfl rfl rfl hx67) ?_
      refine TL_pure rfl rfl rfl rfl (op_fieldAddr fa77_5 rfl rfl) ?_
      refine TL_pure rfl rfl rfl rfl (op_loadD1 ag24 rfl rfl ((getI_spec hx67).2) rfl rfl rfl rfl) ?_
      refine TL_pure rfl rfl rfl rfl (op_move rfl) ?_
      obtain ⟨r71, hr71, hm⟩ := bindS hm
      refine TL_callSub (id := 0) (i := (s0.2.2).toNat) (j := 7) (e' := a_Stmt (Stmt.mk x67.Kind x67.Var x67.Event x67.Sum x67.Index r71.2)) (es' := List.map a_Stmt ((((((((s0.1.set ((s0.2.2).toNat) (Stmt.mk s0.2.1 x15.Var x15.Event x15.Sum x15.Index x15.Facts)).set ((s0.2.2).toNat) (Stmt.mk x22.Kind (w64 (s0.2.1 + (1 : Int))) x22.Event x22.Sum x22.Index x22.Facts)).set ((s0.2.2).toNat) (Stmt.mk x29.Kind x29.Var (w64 ((w64 (s0.2.1 + (1 : Int))) + (1 : Int))) x29.Sum x29.Index x29.Facts)).set ((s0.2.2).toNat) (Stmt.mk x36.Kind x36.Var x36.Event (Term.mk (w64 ((w64 ((w64 (s0.2.1 + (1 : Int))) + (1 : Int))) + (1 : Int))) x36.Sum.Coeffs) x36.Index x36.Facts)).set ((s0.2.2).toNat) (Stmt.mk x43.Kind x43.Var x43.Event (Term.mk x43.Sum.Const r48.2) x43.Index x43.Facts)).set ((s0.2.2).toNat) (Stmt.mk x52.Kind x52.Var x52.Event x52.Sum (Term.mk r48.1 x52.Index.Coeffs) x52.Facts)).set ((s0.2.2).toNat) (Stmt.mk x59.Kind x59.Var x59.Event x59.Sum (Term.mk x59.Index.Const r64.2) x59.Facts)).set ((s0.2.2).toNat) (Stmt.mk x67.Kind x67.Var x67.Event x67.Sum x67.Index r71.2))) (fun E' => c_laws_markTermS x67.Facts r64.1 r71 hr71 E') Try.call60 rfl rfl (get_map ((getI_spec hx67).2)) rfl rfl rfl rfl ⟨.inl ⟨rfl, rfl⟩, .inr ⟨rfl, rfl⟩, trivial⟩ rfl rfl rfl (List.map_set) rfl rfl rfl ?_
      refine TL_pure rfl rfl rfl rfl (op_assign rfl) ?_
      refine TL_nil ?_
      refine T_region ?_
      refine TL_pure rfl rfl rfl rfl (op_move rfl) ?_
      refine TL_pure rfl rfl rfl rfl (op_addW rfl rfl) ?_
      refine TL_pure rfl rfl rfl rfl (op_assign rfl) ?_
      refine TL_nil ?_
      refine TR_keepH [0, 1, 5] [0] rfl rfl rfl rfl (by rw [hF]; rfl) ?_
      obtain rfl := someI hm
      have hn := CtlOK_next hc0
      exact hn _ rfl
    · replace hm := condF hq hm
      refine T_keepH [1] [0] rfl rfl rfl rfl (by rw [hF]; rfl) ?_
      refine T_exit ?_
      obtain rfl := someI hm
      have hn := CtlOK_out hc0
      exact hx0 (s0.2.1, s0.1) hn
theorem c_laws_markProgram (p0 : Program) (p1 : Int) (out : Int × (List Term) × (List Stmt) × (List Term)) (hm : m_laws_markProgram p0 p1 = some out) (E0 : TypeId) (E1 : TypeId) (E2 : TypeId) : ACall Try.prog 32 [.agg [.ow 0, .ow 1, .ow 2], .int .i64 p1] [(0, .arr ⟨true, true⟩ 2 E0 (List.map a_Term p0.Pre)), (1, .arr ⟨true, true⟩ 8 E1 (List.map a_Stmt p0.Body)), (2, .arr ⟨true, true⟩ 2 E2 (List.map a_Term p0.Post))] (.int .i64 out.1) [(0, .arr ⟨true, true⟩ 2 E0 (List.map a_Term out.2.1)), (1, .arr ⟨true, true⟩ 8 E1 (List.map a_Stmt out.2.2.1)), (2, .arr ⟨true, true⟩ 2 E2 (List.map a_Term out.2.2.2))] := by
  refine ACall.intro Try.func32 rfl Try.ntmps32 rfl (fun F hF => ?_)
  unfold m_laws_markProgram at hm
  refine T_seq ?_
  refine T_region ?_
  refine TL_box 11 rfl rfl rfl rfl rfl rfl rfl ?_
  refine TL_pure rfl rfl rfl rfl (op_assign rfl) ?_
  refine TL_nil ?_
  refine T_seq ?_
  refine T_region ?_
  refine TL_pure rfl rfl rfl rfl (op_fieldAddr fa27_0 rfl rfl) ?_
  refine TL_pure rfl rfl rfl rfl (op_load_one ag24 rfl rfl) ?_
  refine TL_pure rfl rfl rfl rfl (op_move rfl) ?_
  obtain ⟨r8, hr8, hm⟩ := bindS hm
  refine TL_call [(0, 0)] [] [] (c_laws_markTermS p0.Pre p1 r8 hr8 _) Try.call60 rfl rfl rfl rfl rfl ⟨rfl, trivial⟩ rfl rfl rfl rfl rfl rfl rfl rfl rfl rfl rfl ?_
  refine TL_pure rfl rfl rfl rfl (op_assign rfl) ?_
  refine TL_nil ?_
  refine T_seq ?_
  refine T_region ?_
  refine TL_pure rfl rfl rfl rfl (op_fieldAddr fa27_1 rfl rfl) ?_
  refine TL_pure rfl rfl rfl rfl (op_load_one ag25 rfl rfl) ?_
  refine TL_pure rfl rfl rfl rfl (op_move rfl) ?_
  obtain ⟨r12, hr12, hm⟩ := bindS hm
  refine TL_call [(0, 1)] [] [] (c_laws_markStmtS p0.Body r8.1 r12 hr12 _) Try.call26 rfl rfl rfl rfl rfl ⟨rfl, trivial⟩ rfl rfl rfl rfl rfl rfl rfl rfl rfl rfl rfl ?_
  refine TL_pure rfl rfl rfl rfl (op_assign rfl) ?_
  refine TL_nil ?_
  refine T_seq ?_
  refine T_region ?_
  refine TL_pure rfl rfl rfl rfl (op_fieldAddr fa27_2 rfl rfl) ?_
  refine TL_pure rfl rfl rfl rfl (op_load_one ag24 rfl rfl) ?_
  refine TL_pure rfl rfl rfl rfl (op_move rfl) ?_
  obtain ⟨r16, hr16, hm⟩ := bindS hm
  refine TL_call [(0, 2)] [] [] (c_laws_markTermS p0.Post r12.1 r16 hr16 _) Try.call60 rfl rfl rfl rfl rfl ⟨rfl, trivial⟩ rfl rfl rfl rfl rfl rfl rfl rfl rfl rfl rfl ?_
  refine TL_pure rfl rfl rfl rfl (op_assign rfl) ?_
  refine TL_nil ?_
  refine T_seq ?_
  refine T_region ?_
  refine TL_pure rfl rfl rfl rfl (op_move rfl) ?_
  refine TL_pure rfl rfl rfl rfl (op_assign rfl) ?_
  refine TL_nil ?_
  refine T_keepH [4] [0, 1, 2] rfl rfl rfl rfl (by rw [hF]; rfl) ?_
  refine T_ret ?_
  obtain rfl := someI hm
  refine ⟨[_], [0, 1, 2], ⟨rfl, trivial⟩, ?_, rfl, rfl, rfl, rfl⟩
  rfl
theorem c_laws_heldInt64S (p0 : List Int) (p1 : Int) (out : Int) (hm : m_laws_heldInt64S p0 p1 = some out) : ACall Try.prog 61 [.sl 1 (List.map a_i64 p0), .int .i64 p1] [] (.int .i64 out) [] := by
  refine ACall.intro Try.func61 rfl Try.ntmps61 rfl (fun F hF => ?_)
  unfold m_laws_heldInt64S at hm
  refine T_seq ?_
  refine T_region ?_
  refine TL_pure rfl rfl rfl rfl (op_assign rfl) ?_
  refine TL_nil ?_
  refine T_seq ?_
  refine T_seq ?_
  refine T_region ?_
  refine TL_pure rfl rfl rfl rfl (op_assign rfl) ?_
  refine TL_nil ?_
  refine T_block ?_
  refine T_keepH [0, 1, 5] [] rfl rfl rfl rfl (by rw [hF]; rfl) ?_
  refine T_loop ?_
  obtain ⟨u0, hl0, hm⟩ := bindS hm
  refine TR_iter2 (m_laws_heldInt64S_L0 p0) (fun (s0 : Int × Int) => ⟨[(0, .sl 1 (List.map a_i64 p0)), (1, .int .i64 s0.1), (5, .int .i64 s0.2)], []⟩) (fun u0 => match u0 with | .inl u0 => .exit 0 | .inr u0 => .ret) (fun u0 => match u0 with | .inl u0 => ⟨[(1, .int .i64 u0)], []⟩ | .inr u0 => ⟨[(4, .int .i64 u0)], []⟩) (fun u0 => m_laws_heldInt64S_A0 u0 = some out) hl0 hm (fun u0 hm => ?_) (fun hx0 s0 c0 hm hc0 => ?_)
  · rcases u0 with u0 | u0
    · unfold m_laws_heldInt64S_A0 at hm
      refine T_seq ?_
      refine T_region ?_
      refine TL_pure rfl rfl rfl rfl (op_move rfl) ?_
      refine TL_pure rfl rfl rfl rfl (op_assign rfl) ?_
      refine TL_nil ?_
      refine T_keepH [4] [] rfl rfl rfl rfl (by rw [hF]; rfl) ?_
      refine T_ret ?_
      obtain rfl := someI hm
      refine ⟨[_], [], ⟨rfl, trivial⟩, ?_, rfl, rfl, rfl, rfl⟩
      rfl
    · unfold m_laws_heldInt64S_A0 at hm
      obtain rfl := someI hm
      refine ⟨[_], [], ⟨rfl, trivial⟩, ?_, rfl, rfl, rfl, rfl⟩
      rfl
  · unfold m_laws_heldInt64S_L0 at hm
    refine T_seq ?_
    refine T_seq ?_
    refine T_region ?_
    refine TL_pure rfl rfl rfl rfl (op_move rfl) ?_
    refine TL_pure rfl rfl rfl rfl (op_move rfl) ?_
    refine TL_pure rfl rfl rfl rfl (op_lenT Try.underlying29 rfl (List.length_map _)) ?_
    refine TL_fact (fun _ _ _ hr => RelP.slLen (i := 7) rfl hr) (fun hlen8 => ?_)
    rw [List.length_map] at hlen8
    refine TL_pure rfl rfl rfl rfl (op_lss rfl rfl) ?_
    refine TL_nil ?_
    refine T_cond rfl (fun hq => ?_) (fun hq => ?_)
    · replace hm := condT hq hm
      refine T_skip ?_
      refine T_seq ?_
      refine T_block ?_
      refine T_seq ?_
      refine T_seq ?_
      refine T_region ?_
      refine TL_pure rfl rfl rfl rfl (op_move rfl) ?_
      refine TL_pure rfl rfl rfl rfl (op_move rfl) ?_
      obtain ⟨x14, hx14, hm⟩ := bindS hm
      refine TL_pure rfl rfl rfl rfl (op_indexT el29 rfl rfl hx14 rfl) ?_
      refine TL_pure rfl rfl rfl rfl (op_load_one ag2 rfl rfl) ?_
      refine TL_pure rfl rfl rfl rfl (op_move rfl) ?_
      refine TL_pure rfl rfl rfl rfl (op_neq rfl rfl) ?_
      refine TL_nil ?_
      refine T_cond rfl (fun hq => ?_) (fun hq => ?_)
      · replace hm := condT hq hm
        refine T_seq ?_
        refine T_region ?_
        refine TL_pure rfl rfl rfl rfl (op_assign rfl) ?_
        refine TL_nil ?_
        refine T_keepH [4] [] rfl rfl rfl rfl (by rw [hF]; rfl) ?_
        refine T_ret ?_
        obtain rfl := someI hm
        have hn := CtlOK_out hc0
        exact hx0 (.inr (-1 : Int)) hn
      · replace hm := condF hq hm
        refine T_skip ?_
        refine T_region ?_
        refine TL_pure rfl rfl rfl rfl (op_move rfl) ?_
        refine TL_pure rfl rfl rfl rfl (op_addW rfl rfl) ?_
        refine TL_pure rfl rfl rfl rfl (op_assign rfl) ?_
        refine TL_nil ?_
        refine T_region ?_
        refine TL_pure rfl rfl rfl rfl (op_move rfl) ?_
        refine TL_pure rfl rfl rfl rfl (op_addW rfl rfl) ?_
        refine TL_pure rfl rfl rfl rfl (op_assign rfl) ?_
        refine TL_nil ?_
        refine TR_keepH [0, 1, 5] [] rfl rfl rfl rfl (by rw [hF]; rfl) ?_
        obtain rfl := someI hm
        have hn := CtlOK_next hc0
        exact hn _ rfl
    · replace hm := condF hq hm
      refine T_keepH [1] [] rfl rfl rfl rfl (by rw [hF]; rfl) ?_
      refine T_exit ?_
      obtain rfl := someI hm
      have hn := CtlOK_out hc0
      exact hx0 (.inl s0.1) hn
theorem c_laws_heldTermS (p0 : List Term) (p1 : Int) (out : Int) (hm : m_laws_heldTermS p0 p1 = some out) : ACall Try.prog 62 [.sl 2 (List.map a_Term p0), .int .i64 p1] [] (.int .i64 out) [] := by
  refine ACall.intro Try.func62 rfl Try.ntmps62 rfl (fun F hF => ?_)
  unfold m_laws_heldTermS at hm
  refine T_seq ?_
  refine T_region ?_
  refine TL_pure rfl rfl rfl rfl (op_assign rfl) ?_
  refine TL_nil ?_
  refine T_seq ?_
  refine T_seq ?_
  refine T_region ?_
  refine TL_pure rfl rfl rfl rfl (op_assign rfl) ?_
  refine TL_nil ?_
  refine T_block ?_
  refine T_keepH [0, 1, 5] [] rfl rfl rfl rfl (by rw [hF]; rfl) ?_
  refine T_loop ?_
  obtain ⟨u0, hl0, hm⟩ := bindS hm
  refine TR_iter2 (m_laws_heldTermS_L0 p0) (fun (s0 : Int × Int) => ⟨[(0, .sl 2 (List.map a_Term p0)), (1, .int .i64 s0.1), (5, .int .i64 s0.2)], []⟩) (fun u0 => match u0 with | .inl u0 => .exit 0 | .inr u0 => .ret) (fun u0 => match u0 with | .inl u0 => ⟨[(1, .int .i64 u0)], []⟩ | .inr u0 => ⟨[(4, .int .i64 u0)], []⟩) (fun u0 => m_laws_heldTermS_A0 u0 = some out) hl0 hm (fun u0 hm => ?_) (fun hx0 s0 c0 hm hc0 => ?_)
  · rcases u0 with u0 | u0
    · unfold m_laws_heldTermS_A0 at hm
      refine T_seq ?_
      refine T_region ?_
      refine TL_pure rfl rfl rfl rfl (op_move rfl) ?_
      refine TL_pure rfl rfl rfl rfl (op_assign rfl) ?_
      refine TL_nil ?_
      refine T_keepH [4] [] rfl rfl rfl rfl (by rw [hF]; rfl) ?_
      refine T_ret ?_
      obtain rfl := someI hm
      refine ⟨[_], [], ⟨rfl, trivial⟩, ?_, rfl, rfl, rfl, rfl⟩
      rfl
    · unfold m_laws_heldTermS_A0 at hm
      obtain rfl := someI hm
      refine ⟨[_], [], ⟨rfl, trivial⟩, ?_, rfl, rfl, rfl, rfl⟩
      rfl
  · unfold m_laws_heldTermS_L0 at hm
    refine T_seq ?_
    refine T_seq ?_
    refine T_region ?_
    refine TL_pure rfl rfl rfl rfl (op_move rfl) ?_
    refine TL_pure rfl rfl rfl rfl (op_move rfl) ?_
    refine TL_pure rfl rfl rfl rfl (op_lenT Try.underlying24 rfl (List.length_map _)) ?_
    refine TL_fact (fun _ _ _ hr => RelP.slLen (i := 7) rfl hr) (fun hlen8 => ?_)
    rw [List.length_map] at hlen8
    refine TL_pure rfl rfl rfl rfl (op_lss rfl rfl) ?_
    refine TL_nil ?_
    refine T_cond rfl (fun hq => ?_) (fun hq => ?_)
    · replace hm := condT hq hm
      refine T_skip ?_
      refine T_seq ?_
      refine T_block ?_
      refine T_seq ?_
      refine T_seq ?_
      refine T_region ?_
      refine TL_pure rfl rfl rfl rfl (op_move rfl) ?_
      refine TL_pure rfl rfl rfl rfl (op_move rfl) ?_
      obtain ⟨x14, hx14, hm⟩ := bindS hm
      refine TL_pure rfl rfl rfl rfl (op_indexT el24 rfl rfl hx14 rfl) ?_
      refine TL_pure rfl rfl rfl rfl (op_fieldAddrC (n := 1) fa75_0 rfl rfl rfl) ?_
      refine TL_pure rfl rfl rfl rfl (op_load_one ag2 rfl rfl) ?_
      refine TL_pure rfl rfl rfl rfl (op_move rfl) ?_
      refine TL_pure rfl rfl rfl rfl (op_neq rfl rfl) ?_
      refine TL_nil ?_
      refine T_cond rfl (fun hq => ?_) (fun hq => ?_)
      · replace hm := condT hq hm
        refine T_seq ?_
        refine T_region ?_
        refine TL_pure rfl rfl rfl rfl (op_assign rfl) ?_
        refine TL_nil ?_
        refine T_keepH [4] [] rfl rfl rfl rfl (by rw [hF]; rfl) ?_
        refine T_ret ?_
        obtain rfl := someI hm
        have hn := CtlOK_out hc0
        exact hx0 (.inr (-1 : Int)) hn
      · replace hm := condF hq hm
        refine T_skip ?_
        refine T_seq ?_
        refine T_region ?_
        refine TL_pure rfl rfl rfl rfl (op_move rfl) ?_
        refine TL_pure rfl rfl rfl rfl (op_addW rfl rfl) ?_
        refine TL_pure rfl rfl rfl rfl (op_assign rfl) ?_
        refine TL_nil ?_
        refine T_seq ?_
        refine T_region ?_
        refine TL_pure rfl rfl rfl rfl (op_move rfl) ?_
        refine TL_pure rfl rfl rfl rfl (op_move rfl) ?_
        refine TL_pure rfl rfl rfl rfl (op_indexT el24 rfl rfl hx14 rfl) ?_
        refine TL_pure rfl rfl rfl rfl (op_fieldAddr fa75_1 rfl rfl) ?_
        refine TL_pure rfl rfl rfl rfl (op_load_one ag29 rfl rfl) ?_
        refine TL_pure rfl rfl rfl rfl (op_move rfl) ?_
        obtain ⟨r27, hr27, hm⟩ := bindS hm
        refine TL_callF (c_laws_heldInt64S x14.Coeffs (w64 (s0.1 + (1 : Int))) r27 hr27) Try.call61 rfl rfl rfl rfl rfl ?_
        refine TL_pure rfl rfl rfl rfl (op_assign rfl) ?_
        refine TL_nil ?_
        refine T_seq ?_
        refine T_region ?_
        refine TL_pure rfl rfl rfl rfl (op_move rfl) ?_
        refine TL_pure rfl rfl rfl rfl (op_lss rfl rfl) ?_
        refine TL_nil ?_
        refine T_cond rfl (fun hq => ?_) (fun hq => ?_)
        · replace hm := condT hq hm
          refine T_seq ?_
          refine T_region ?_
          refine TL_pure rfl rfl rfl rfl (op_assign rfl) ?_
          refine TL_nil ?_
          refine T_keepH [4] [] rfl rfl rfl rfl (by rw [hF]; rfl) ?_
          refine T_ret ?_
          obtain rfl := someI hm
          have hn := CtlOK_out hc0
          exact hx0 (.inr (-1 : Int)) hn
        · replace hm := condF hq hm
          refine T_skip ?_
          refine T_region ?_
          refine TL_pure rfl rfl rfl rfl (op_move rfl) ?_
          refine TL_pure rfl rfl rfl rfl (op_addW rfl rfl) ?_
          refine TL_pure rfl rfl rfl rfl (op_assign rfl) ?_
          refine TL_nil ?_
          refine TR_keepH [0, 1, 5] [] rfl rfl rfl rfl (by rw [hF]; rfl) ?_
          obtain rfl := someI hm
          have hn := CtlOK_next hc0
          exact hn _ rfl
    · replace hm := condF hq hm
      refine T_keepH [1] [] rfl rfl rfl rfl (by rw [hF]; rfl) ?_
      refine T_exit ?_
      obtain rfl := someI hm
      have hn := CtlOK_out hc0
      exact hx0 (.inl s0.1) hn
theorem c_laws_heldStmtS (p0 : List Stmt) (p1 : Int) (out : Int) (hm : m_laws_heldStmtS p0 p1 = some out) : ACall Try.prog 27 [.sl 8 (List.map a_Stmt p0), .int .i64 p1] [] (.int .i64 out) [] := by
  refine ACall.intro Try.func27 rfl Try.ntmps27 rfl (fun F hF => ?_)
  unfold m_laws_heldStmtS at hm
  refine T_seq ?_
  refine T_region ?_
  refine TL_pure rfl rfl rfl rfl (op_assign rfl) ?_
  refine TL_nil ?_
  refine T_seq ?_
  refine T_seq ?_
  refine T_region ?_
  refine TL_pure rfl rfl rfl rfl (op_assign rfl) ?_
  refine TL_nil ?_
  refine T_block ?_
  refine T_keepH [0, 1, 5] [] rfl rfl rfl rfl (by rw [hF]; rfl) ?_
  refine T_loop ?_
  obtain ⟨u0, hl0, hm⟩ := bindS hm
  refine TR_iter2 (m_laws_heldStmtS_L0 p0) (fun (s0 : Int × Int) => ⟨[(0, .sl 8 (List.map a_Stmt p0)), (1, .int .i64 s0.1), (5, .int .i64 s0.2)], []⟩) (fun u0 => match u0 with | .inl u0 => .exit 0 | .inr u0 => .ret) (fun u0 => match u0 with | .inl u0 => ⟨[(1, .int .i64 u0)], []⟩ | .inr u0 => ⟨[(4, .int .i64 u0)], []⟩) (fun u0 => m_laws_heldStmtS_A0 u0 = some out) hl0 hm (fun u0 hm => ?_) (fun hx0 s0 c0 hm hc0 => ?_)
  · rcases u0 with u0 | u0
    · unfold m_laws_heldStmtS_A0 at hm
      refine T_seq ?_
      refine T_region ?_
      refine TL_pure rfl rfl rfl rfl (op_move rfl) ?_
      refine TL_pure rfl rfl rfl rfl (op_assign rfl) ?_
      refine TL_nil ?_
      refine T_keepH [4] [] rfl rfl rfl rfl (by rw [hF]; rfl) ?_
      refine T_ret ?_
      obtain rfl := someI hm
      refine ⟨[_], [], ⟨rfl, trivial⟩, ?_, rfl, rfl, rfl, rfl⟩
      rfl
    · unfold m_laws_heldStmtS_A0 at hm
      obtain rfl := someI hm
      refine ⟨[_], [], ⟨rfl, trivial⟩, ?_, rfl, rfl, rfl, rfl⟩
      rfl
  · unfold m_laws_heldStmtS_L0 at hm
    refine T_seq ?_
    refine T_seq ?_
    refine T_region ?_
    refine TL_pure rfl rfl rfl rfl (op_move rfl) ?_
    refine TL_pure rfl rfl rfl rfl (op_move rfl) ?_
    refine TL_pure rfl rfl rfl rfl (op_lenT Try.underlying25 rfl (List.length_map _)) ?_
    refine TL_fact (fun _ _ _ hr => RelP.slLen (i := 7) rfl hr) (fun hlen8 => ?_)
    rw [List.length_map] at hlen8
    refine TL_pure rfl rfl rfl rfl (op_lss rfl rfl) ?_
    refine TL_nil ?_
    refine T_cond rfl (fun hq => ?_) (fun hq => ?_)
    · replace hm := condT hq hm
      refine T_skip ?_
      refine T_seq ?_
      refine T_block ?_
      refine T_seq ?_
      refine T_seq ?_
      refine T_region ?_
      refine TL_pure rfl rfl rfl rfl (op_move rfl) ?_
      refine TL_pure rfl rfl rfl rfl (op_move rfl) ?_
      obtain ⟨x14, hx14, hm⟩ := bindS hm
      refine TL_pure rfl rfl rfl rfl (op_indexT el25 rfl rfl hx14 rfl) ?_
      refine TL_pure rfl rfl rfl rfl (op_fieldAddrC (n := 1) fa77_0 rfl rfl rfl) ?_
      refine TL_pure rfl rfl rfl rfl (op_load_one ag2 rfl rfl) ?_
      refine TL_pure rfl rfl rfl rfl (op_move rfl) ?_
      refine TL_pure rfl rfl rfl rfl (op_neq rfl rfl) ?_
      refine TL_nil ?_
      refine T_cond rfl (fun hq => ?_) (fun hq => ?_)
      · replace hm := condT hq hm
        refine T_seq ?_
        refine T_region ?_
        refine TL_pure rfl rfl rfl rfl (op_assign rfl) ?_
        refine TL_nil ?_
        refine T_keepH [4] [] rfl rfl rfl rfl (by rw [hF]; rfl) ?_
        refine T_ret ?_
        obtain rfl := someI hm
        have hn := CtlOK_out hc0
        exact hx0 (.inr (-1 : Int)) hn
      · replace hm := condF hq hm
        refine T_skip ?_
        refine T_seq ?_
        refine T_region ?_
        refine TL_pure rfl rfl rfl rfl (op_move rfl) ?_
        refine TL_pure rfl rfl rfl rfl (op_addW rfl rfl) ?_
        refine TL_pure rfl rfl rfl rfl (op_assign rfl) ?_
        refine TL_nil ?_
        refine T_seq ?_
        refine T_seq ?_
        refine T_region ?_
        refine TL_pure rfl rfl rfl rfl (op_move rfl) ?_
        refine TL_pure rfl rfl rfl rfl (op_move rfl) ?_
        refine TL_pure rfl rfl rfl rfl (op_indexT el25 rfl rfl hx14 rfl) ?_
        refine TL_pure rfl rfl rfl rfl (op_fieldAddrC (n := 1) fa77_1 rfl rfl rfl) ?_
        refine TL_pure rfl rfl rfl rfl (op_load_one ag2 rfl rfl) ?_
        refine TL_pure rfl rfl rfl rfl (op_move rfl) ?_
        refine TL_pure rfl rfl rfl rfl (op_neq rfl rfl) ?_
        refine TL_nil ?_
        refine T_cond rfl (fun hq => ?_) (fun hq => ?_)
        · replace hm := condT hq hm
          refine T_seq ?_
          refine T_region ?_
          refine TL_pure rfl rfl rfl rfl (op_assign rfl) ?_
          refine TL_nil ?_
          refine T_keepH [4] [] rfl rfl rfl rfl (by rw [hF]; rfl) ?_
          refine T_ret ?_
          obtain rfl := someI hm
          have hn := CtlOK_out hc0
          exact hx0 (.inr (-1 : Int)) hn
        · replace hm := condF hq hm
          refine T_skip ?_
          refine T_seq ?_
          refine T_region ?_
          refine TL_pure rfl rfl rfl rfl (op_move rfl) ?_
          refine TL_pure rfl rfl rfl rfl (op_addW rfl rfl) ?_
          refine TL_pure rfl rfl rfl rfl (op_assign rfl) ?_
          refine TL_nil ?_
          refine T_seq ?_
          refine T_seq ?_
          refine T_region ?_
          refine TL_pure rfl rfl rfl rfl (op_move rfl) ?_
          refine TL_pure rfl rfl rfl rfl (op_move rfl) ?_
          refine TL_pure rfl rfl rfl rfl (op_indexT el25 rfl rfl hx14 rfl) ?_
          refine TL_pure rfl rfl rfl rfl (op_fieldAddrC (n := 1) fa77_2 rfl rfl rfl) ?_
          refine TL_pure rfl rfl rfl rfl (op_load_one ag2 rfl rfl) ?_
          refine TL_pure rfl rfl rfl rfl (op_move rfl) ?_
          refine TL_pure rfl rfl rfl rfl (op_neq rfl rfl) ?_
          refine TL_nil ?_
          refine T_cond rfl (fun hq => ?_) (fun hq => ?_)
          · replace hm := condT hq hm
            refine T_seq ?_
            refine T_region ?_
            refine TL_pure rfl rfl rfl rfl (op_assign rfl) ?_
            refine TL_nil ?_
            refine T_keepH [4] [] rfl rfl rfl rfl (by rw [hF]; rfl) ?_
            refine T_ret ?_
            obtain rfl := someI hm
            have hn := CtlOK_out hc0
            exact hx0 (.inr (-1 : Int)) hn
          · replace hm := condF hq hm
            refine T_skip ?_
            refine T_seq ?_
            refine T_region ?_
            refine TL_pure rfl rfl rfl rfl (op_move rfl) ?_
            refine TL_pure rfl rfl rfl rfl (op_addW rfl rfl) ?_
            refine TL_pure rfl rfl rfl rfl (op_assign rfl) ?_
            refine TL_nil ?_
            refine T_seq ?_
            refine T_seq ?_
            refine T_region ?_
            refine TL_pure rfl rfl rfl rfl (op_move rfl) ?_
            refine TL_pure rfl rfl rfl rfl (op_move rfl) ?_
            refine TL_pure rfl rfl rfl rfl (op_indexT el25 rfl rfl hx14 rfl) ?_
            refine TL_pure rfl rfl rfl rfl (op_fieldAddrC (n := 2) fa77_3 rfl rfl rfl) ?_
            refine TL_pure rfl rfl rfl rfl (op_fieldAddrC (n := 1) fa75_0 rfl rfl rfl) ?_
            refine TL_pure rfl rfl rfl rfl (op_load_one ag2 rfl rfl) ?_
            refine TL_pure rfl rfl rfl rfl (op_move rfl) ?_
            refine TL_pure rfl rfl rfl rfl (op_neq rfl rfl) ?_
            refine TL_nil ?_
            refine T_cond rfl (fun hq => ?_) (fun hq => ?_)
            · replace hm := condT hq hm
              refine T_seq ?_
              refine T_region ?_
              refine TL_pure rfl rfl rfl rfl (op_assign rfl) ?_
              refine TL_nil ?_
              refine T_keepH [4] [] rfl rfl rfl rfl (by rw [hF]; rfl) ?_
              refine T_ret ?_
              obtain rfl := someI hm
              have hn := CtlOK_out hc0
              exact hx0 (.inr (-1 : Int)) hn
            · replace hm := condF hq hm
              refine T_skip ?_
              refine T_seq ?_
              refine T_region ?_
              refine TL_pure rfl rfl rfl rfl (op_move rfl) ?_
              refine TL_pure rfl rfl rfl rfl (op_addW rfl rfl) ?_
              refine TL_pure rfl rfl rfl rfl (op_assign rfl) ?_
              refine TL_nil ?_
              refine T_seq ?_
              refine T_region ?_
              refine TL_pure rfl rfl rfl rfl (op_move rfl) ?_
              refine TL_pure rfl rfl rfl rfl (op_move rfl) ?_
              refine TL_pure rfl rfl rfl rfl (op_indexT el25 rfl rfl hx14 rfl) ?_
              refine TL_pure rfl rfl rfl rfl (op_fieldAddrC (n := 2) fa77_3 rfl rfl rfl) ?_
              refine TL_pure rfl rfl rfl rfl (op_fieldAddr fa75_1 rfl rfl) ?_
              refine TL_pure rfl rfl rfl rfl (op_load_one ag29 rfl rfl) ?_
              refine TL_pure rfl rfl rfl rfl (op_move rfl) ?_
              obtain ⟨r56, hr56, hm⟩ := bindS hm
              refine TL_callF (c_laws_heldInt64S x14.Sum.Coeffs (w64 ((w64 ((w64 ((w64 (s0.1 + (1 : Int))) + (1 : Int))) + (1 : Int))) + (1 : Int))) r56 hr56) Try.call61 rfl rfl rfl rfl rfl ?_
              refine TL_pure rfl rfl rfl rfl (op_assign rfl) ?_
              refine TL_nil ?_
              refine T_seq ?_
              refine T_seq ?_
              refine T_region ?_
              refine TL_pure rfl rfl rfl rfl (op_move rfl) ?_
              refine TL_pure rfl rfl rfl rfl (op_lss rfl rfl) ?_
              refine TL_nil ?_
              refine T_cond rfl (fun hq => ?_) (fun hq => ?_)
              · replace hm := condT hq hm
                refine T_seq ?_
                refine T_region ?_
                refine TL_pure rfl rfl rfl rfl (op_assign rfl) ?_
                refine TL_nil ?_
                refine T_keepH [4] [] rfl rfl rfl rfl (by rw [hF]; rfl) ?_
                refine T_ret ?_
                obtain rfl := someI hm
                have hn := CtlOK_out hc0
                exact hx0 (.inr (-1 : Int)) hn
              · replace hm := condF hq hm
                refine T_skip ?_
                refine T_seq ?_
                refine T_seq ?_
                refine T_region ?_
                refine TL_pure rfl rfl rfl rfl (op_move rfl) ?_
                refine TL_pure rfl rfl rfl rfl (op_move rfl) ?_
                refine TL_pure rfl rfl rfl rfl (op_indexT el25 rfl rfl hx14 rfl) ?_
                refine TL_pure rfl rfl rfl rfl (op_fieldAddrC (n := 2) fa77_4 rfl rfl rfl) ?_
                refine TL_pure rfl rfl rfl rfl (op_fieldAddrC (n := 1) fa75_0 rfl rfl rfl) ?_
                refine TL_pure rfl rfl rfl rfl (op_load_one ag2 rfl rfl) ?_
                refine TL_pure rfl rfl rfl rfl (op_move rfl) ?_
                refine TL_pure rfl rfl rfl rfl (op_neq rfl rfl) ?_
                refine TL_nil ?_
                refine T_cond rfl (fun hq => ?_) (fun hq => ?_)
                · replace hm := condT hq hm
                  refine T_seq ?_
                  refine T_region ?_
                  refine TL_pure rfl rfl rfl rfl (op_assign rfl) ?_
                  refine TL_nil ?_
                  refine T_keepH [4] [] rfl rfl rfl rfl (by rw [hF]; rfl) ?_
                  refine T_ret ?_
                  obtain rfl := someI hm
                  have hn := CtlOK_out hc0
                  exact hx0 (.inr (-1 : Int)) hn
                · replace hm := condF hq hm
                  refine T_skip ?_
                  refine T_seq ?_
                  refine T_region ?_
                  refine TL_pure rfl rfl rfl rfl (op_move rfl) ?_
                  refine TL_pure rfl rfl rfl rfl (op_addW rfl rfl) ?_
                  refine TL_pure rfl rfl rfl rfl (op_assign rfl) ?_
                  refine TL_nil ?_
                  refine T_seq ?_
                  refine T_region ?_
                  refine TL_pure rfl rfl rfl rfl (op_move rfl) ?_
                  refine TL_pure rfl rfl rfl rfl (op_move rfl) ?_
                  refine TL_pure rfl rfl rfl rfl (op_indexT el25 rfl rfl hx14 rfl) ?_
                  refine TL_pure rfl rfl rfl rfl (op_fieldAddrC (n := 2) fa77_4 rfl rfl rfl) ?_
                  refine TL_pure rfl rfl rfl rfl (op_fieldAddr fa75_1 rfl rfl) ?_
                  refine TL_pure rfl rfl rfl rfl (op_load_one ag29 rfl rfl) ?_
                  refine TL_pure rfl rfl rfl rfl (op_move rfl) ?_
                  obtain ⟨r76, hr76, hm⟩ := bindS hm
                  refine TL_callF (c_laws_heldInt64S x14.Index.Coeffs (w64 (r56 + (1 : Int))) r76 hr76) Try.call61 rfl rfl rfl rfl rfl ?_
                  refine TL_pure rfl rfl rfl rfl (op_assign rfl) ?_
                  refine TL_nil ?_
                  refine T_seq ?_
                  refine T_seq ?_
                  refine T_region ?_
                  refine TL_pure rfl rfl rfl rfl (op_move rfl) ?_
                  refine TL_pure rfl rfl rfl rfl (op_lss rfl rfl) ?_
                  refine TL_nil ?_
                  refine T_cond rfl (fun hq => ?_) (fun hq => ?_)
                  · replace hm := condT hq hm
                    refine T_seq ?_
                    refine T_region ?_
                    refine TL_pure rfl rfl rfl rfl (op_assign rfl) ?_
                    refine TL_nil ?_
                    refine T_keepH [4] [] rfl rfl rfl rfl (by rw [hF]; rfl) ?_
                    refine T_ret ?_
                    obtain rfl := someI hm
                    have hn := CtlOK_out hc0
                    exact hx0 (.inr (-1 : Int)) hn
                  · replace hm := condF hq hm
                    refine T_skip ?_
                    refine T_seq ?_
                    refine T_region ?_
                    refine TL_pure rfl rfl rfl rfl (op_move rfl) ?_
                    refine TL_pure rfl rfl rfl rfl (op_move rfl) ?_
                    refine TL_pure rfl rfl rfl rfl (op_indexT el25 rfl rfl hx14 rfl) ?_
                    refine TL_pure rfl rfl rfl rfl (op_fieldAddr fa77_5 rfl rfl) ?_
                    refine TL_pure rfl rfl rfl rfl (op_load_one ag24 rfl rfl) ?_
                    refine TL_pure rfl rfl rfl rfl (op_move rfl) ?_
                    obtain ⟨r85, hr85, hm⟩ := bindS hm
                    refine TL_callF (c_laws_heldTermS x14.Facts r76 r85 hr85) Try.call62 rfl rfl rfl rfl rfl ?_
                    refine TL_pure rfl rfl rfl rfl (op_assign rfl) ?_
                    refine TL_nil ?_
                    refine T_seq ?_
                    refine T_region ?_
                    refine TL_pure rfl rfl rfl rfl (op_move rfl) ?_
                    refine TL_pure rfl rfl rfl rfl (op_lss rfl rfl) ?_
                    refine TL_nil ?_
                    refine T_cond rfl (fun hq => ?_) (fun hq => ?_)
                    · replace hm := condT hq hm
                      refine T_seq ?_
                      refine T_region ?_
                      refine TL_pure rfl rfl rfl rfl (op_assign rfl) ?_
                      refine TL_nil ?_
                      refine T_keepH [4] [] rfl rfl rfl rfl (by rw [hF]; rfl) ?_
                      refine T_ret ?_
                      obtain rfl := someI hm
                      have hn := CtlOK_out hc0
                      exact hx0 (.inr (-1 : Int)) hn
                    · replace hm := condF hq hm
                      refine T_skip ?_
                      refine T_region ?_
                      refine TL_pure rfl rfl rfl rfl (op_move rfl) ?_
                      refine TL_pure rfl rfl rfl rfl (op_addW rfl rfl) ?_
                      refine TL_pure rfl rfl rfl rfl (op_assign rfl) ?_
                      refine TL_nil ?_
                      refine TR_keepH [0, 1, 5] [] rfl rfl rfl rfl (by rw [hF]; rfl) ?_
                      obtain rfl := someI hm
                      have hn := CtlOK_next hc0
                      exact hn _ rfl
    · replace hm := condF hq hm
      refine T_keepH [1] [] rfl rfl rfl rfl (by rw [hF]; rfl) ?_
      refine T_exit ?_
      obtain rfl := someI hm
      have hn := CtlOK_out hc0
      exact hx0 (.inl s0.1) hn
theorem c_laws_heldProgram (p0 : Program) (p1 : Int) (out : Int) (hm : m_laws_heldProgram p0 p1 = some out) : ACall Try.prog 33 [.agg [.sl 2 (List.map a_Term p0.Pre), .sl 8 (List.map a_Stmt p0.Body), .sl 2 (List.map a_Term p0.Post)], .int .i64 p1] [] (.int .i64 out) [] := by
  refine ACall.intro Try.func33 rfl Try.ntmps33 rfl (fun F hF => ?_)
  unfold m_laws_heldProgram at hm
  refine T_seq ?_
  refine T_region ?_
  refine TL_box 11 rfl rfl rfl rfl rfl rfl rfl ?_
  refine TL_pure rfl rfl rfl rfl (op_assign rfl) ?_
  refine TL_nil ?_
  refine T_seq ?_
  refine T_region ?_
  refine TL_pure rfl rfl rfl rfl (op_fieldAddr fa27_0 rfl rfl) ?_
  refine TL_pure rfl rfl rfl rfl (op_load_one ag24 rfl rfl) ?_
  refine TL_pure rfl rfl rfl rfl (op_move rfl) ?_
  obtain ⟨r8, hr8, hm⟩ := bindS hm
  refine TL_callF (c_laws_heldTermS p0.Pre p1 r8 hr8) Try.call62 rfl rfl rfl rfl rfl ?_
  refine TL_pure rfl rfl rfl rfl (op_assign rfl) ?_
  refine TL_nil ?_
  refine T_seq ?_
  refine T_seq ?_
  refine T_region ?_
  refine TL_pure rfl rfl rfl rfl (op_move rfl) ?_
  refine TL_pure rfl rfl rfl rfl (op_lss rfl rfl) ?_
  refine TL_nil ?_
  refine T_cond rfl (fun hq => ?_) (fun hq => ?_)
  · replace hm := condT hq hm
    refine T_seq ?_
    refine T_region ?_
    refine TL_pure rfl rfl rfl rfl (op_assign rfl) ?_
    refine TL_nil ?_
    refine T_keepH [4] [] rfl rfl rfl rfl (by rw [hF]; rfl) ?_
    refine T_ret ?_
    obtain rfl := someI hm
    refine ⟨[_], [], ⟨rfl, trivial⟩, ?_, rfl, rfl, rfl, rfl⟩
    rfl
  · replace hm := condF hq hm
    refine T_skip ?_
    refine T_seq ?_
    refine T_region ?_
    refine TL_pure rfl rfl rfl rfl (op_fieldAddr fa27_1 rfl rfl) ?_
    refine TL_pure rfl rfl rfl rfl (op_load_one ag25 rfl rfl) ?_
    refine TL_pure rfl rfl rfl rfl (op_move rfl) ?_
    obtain ⟨r14, hr14, hm⟩ := bindS hm
    refine TL_callF (c_laws_heldStmtS p0.Body r8 r14 hr14) Try.call27 rfl rfl rfl rfl rfl ?_
    refine TL_pure rfl rfl rfl rfl (op_assign rfl) ?_
    refine TL_nil ?_
    refine T_seq ?_
    refine T_seq ?_
    refine T_region ?_
    refine TL_pure rfl rfl rfl rfl (op_move rfl) ?_
    refine TL_pure rfl rfl rfl rfl (op_lss rfl rfl) ?_
    refine TL_nil ?_
    refine T_cond rfl (fun hq => ?_) (fun hq => ?_)
    · replace hm := condT hq hm
      refine T_seq ?_
      refine T_region ?_
      refine TL_pure rfl rfl rfl rfl (op_assign rfl) ?_
      refine TL_nil ?_
      refine T_keepH [4] [] rfl rfl rfl rfl (by rw [hF]; rfl) ?_
      refine T_ret ?_
      obtain rfl := someI hm
      refine ⟨[_], [], ⟨rfl, trivial⟩, ?_, rfl, rfl, rfl, rfl⟩
      rfl
    · replace hm := condF hq hm
      refine T_skip ?_
      refine T_seq ?_
      refine T_region ?_
      refine TL_pure rfl rfl rfl rfl (op_fieldAddr fa27_2 rfl rfl) ?_
      refine TL_pure rfl rfl rfl rfl (op_load_one ag24 rfl rfl) ?_
      refine TL_pure rfl rfl rfl rfl (op_move rfl) ?_
      obtain ⟨r20, hr20, hm⟩ := bindS hm
      refine TL_callF (c_laws_heldTermS p0.Post r14 r20 hr20) Try.call62 rfl rfl rfl rfl rfl ?_
      refine TL_pure rfl rfl rfl rfl (op_assign rfl) ?_
      refine TL_nil ?_
      refine T_seq ?_
      refine T_seq ?_
      refine T_region ?_
      refine TL_pure rfl rfl rfl rfl (op_move rfl) ?_
      refine TL_pure rfl rfl rfl rfl (op_lss rfl rfl) ?_
      refine TL_nil ?_
      refine T_cond rfl (fun hq => ?_) (fun hq => ?_)
      · replace hm := condT hq hm
        refine T_seq ?_
        refine T_region ?_
        refine TL_pure rfl rfl rfl rfl (op_assign rfl) ?_
        refine TL_nil ?_
        refine T_keepH [4] [] rfl rfl rfl rfl (by rw [hF]; rfl) ?_
        refine T_ret ?_
        obtain rfl := someI hm
        refine ⟨[_], [], ⟨rfl, trivial⟩, ?_, rfl, rfl, rfl, rfl⟩
        rfl
      · replace hm := condF hq hm
        refine T_skip ?_
        refine T_seq ?_
        refine T_region ?_
        refine TL_pure rfl rfl rfl rfl (op_move rfl) ?_
        refine TL_pure rfl rfl rfl rfl (op_assign rfl) ?_
        refine TL_nil ?_
        refine T_keepH [4] [] rfl rfl rfl rfl (by rw [hF]; rfl) ?_
        refine T_ret ?_
        obtain rfl := someI hm
        refine ⟨[_], [], ⟨rfl, trivial⟩, ?_, rfl, rfl, rfl, rfl⟩
        rfl
theorem c_laws_FnExactJoinPrograms (p0 : Program) (p1 : Program) (out : Bool) (hm : m_laws_FnExactJoinPrograms p0 p1 = some out) : ACall Try.prog 6 [.agg [.sl 2 (List.map a_Term p0.Pre), .sl 8 (List.map a_Stmt p0.Body), .sl 2 (List.map a_Term p0.Post)], .agg [.sl 2 (List.map a_Term p1.Pre), .sl 8 (List.map a_Stmt p1.Body), .sl 2 (List.map a_Term p1.Post)]] [] (.bool out) [] := by
  refine ACall.intro Try.func6 rfl Try.ntmps6 rfl (fun F hF => ?_)
  unfold m_laws_FnExactJoinPrograms at hm
  refine T_seq ?_
  refine T_region ?_
  refine TL_box 11 rfl rfl rfl rfl rfl rfl rfl ?_
  refine TL_box 12 rfl rfl rfl rfl rfl rfl rfl ?_
  refine TL_pure rfl rfl rfl rfl (op_assign rfl) ?_
  refine TL_nil ?_
  refine T_seq ?_
  refine T_region ?_
  refine TL_pure rfl rfl rfl rfl (op_assign rfl) ?_
  refine TL_nil ?_
  refine T_seq ?_
  refine T_region ?_
  refine TL_pure rfl rfl rfl rfl (op_load_agg ag54 sz54 rfl rfl rfl) ?_
  refine TL_pure rfl rfl rfl rfl (op_move rfl) ?_
  obtain ⟨r19, hr19, hm⟩ := bindS hm
  refine TL_callF (c_laws_szProgram p0 (1048576 : Int) r19 hr19) Try.call28 rfl rfl rfl rfl rfl ?_
  refine TL_pure rfl rfl rfl rfl (op_assign rfl) ?_
  refine TL_nil ?_
  refine T_seq ?_
  refine T_seq ?_
  refine T_region ?_
  refine TL_pure rfl rfl rfl rfl (op_move rfl) ?_
  refine TL_pure rfl rfl rfl rfl (op_lss rfl rfl) ?_
  refine TL_nil ?_
  refine T_cond rfl (fun hq => ?_) (fun hq => ?_)
  · replace hm := condT hq hm
    refine T_seq ?_
    refine T_region ?_
    refine TL_pure rfl rfl rfl rfl (op_assign rfl) ?_
    refine TL_nil ?_
    refine T_keepH [4] [] rfl rfl rfl rfl (by rw [hF]; rfl) ?_
    refine T_ret ?_
    obtain rfl := someI hm
    refine ⟨[_], [], ⟨rfl, trivial⟩, ?_, rfl, rfl, rfl, rfl⟩
    rfl
  · replace hm := condF hq hm
    refine T_skip ?_
    refine T_seq ?_
    refine T_region ?_
    refine TL_pure rfl rfl rfl rfl (op_load_agg ag54 sz54 rfl rfl rfl) ?_
    refine TL_pure rfl rfl rfl rfl (op_move rfl) ?_
    obtain ⟨r24, hr24, hm⟩ := bindS hm
    refine TL_callF (c_laws_szProgram p1 r19 r24 hr24) Try.call28 rfl rfl rfl rfl rfl ?_
    refine TL_pure rfl rfl rfl rfl (op_assign rfl) ?_
    refine TL_nil ?_
    refine T_seq ?_
    refine T_seq ?_
    refine T_region ?_
    refine TL_pure rfl rfl rfl rfl (op_move rfl) ?_
    refine TL_pure rfl rfl rfl rfl (op_lss rfl rfl) ?_
    refine TL_nil ?_
    refine T_cond rfl (fun hq => ?_) (fun hq => ?_)
    · replace hm := condT hq hm
      refine T_seq ?_
      refine T_region ?_
      refine TL_pure rfl rfl rfl rfl (op_assign rfl) ?_
      refine TL_nil ?_
      refine T_keepH [4] [] rfl rfl rfl rfl (by rw [hF]; rfl) ?_
      refine T_ret ?_
      obtain rfl := someI hm
      refine ⟨[_], [], ⟨rfl, trivial⟩, ?_, rfl, rfl, rfl, rfl⟩
      rfl
    · replace hm := condF hq hm
      refine T_skip ?_
      refine T_join (fun (j0 : (List Term) × (List Stmt) × (List Term) × Bool) => ⟨[(2, .ptr 11 0 0), (3, .ptr 12 0 0), (6, .ptr 733 0 0), (7, .bool j0.2.2.2)], [(11, .box [.sl 2 (List.map a_Term p0.Pre), .sl 8 (List.map a_Stmt p0.Body), .sl 2 (List.map a_Term p0.Post)]), (12, .box [.sl 2 (List.map a_Term p1.Pre), .sl 8 (List.map a_Stmt p1.Body), .sl 2 (List.map a_Term p1.Post)]), (413, .arr ⟨false, true⟩ 2 75 (List.map a_Term j0.1)), (414, .arr ⟨false, true⟩ 8 77 (List.map a_Stmt j0.2.1)), (415, .arr ⟨false, true⟩ 2 75 (List.map a_Term j0.2.2.1)), (733, .box [.ow 413, .ow 414, .ow 415])]⟩) (fun j0 => m_laws_FnExactJoinPrograms_J0 p0 p1 j0 = some out) (fun j0 hm => ?_) (fun hj0 => ?_)
      · unfold m_laws_FnExactJoinPrograms_J0 at hm
        refine T_seq ?_
        refine T_region ?_
        refine TL_pure rfl rfl rfl rfl (op_load_agg ag54 sz54 rfl rfl rfl) ?_
        obtain ⟨r36, hr36, hm⟩ := bindS hm
        refine TL_callO [(1000, 893), (1001, 894), (1002, 895)] (c_laws_toProgram p0 r36 hr36) Try.call30 rfl rfl rfl rfl rfl rfl rfl rfl rfl rfl rfl rfl rfl ?_
        refine TL_alloc 896 z27 rfl rfl rfl rfl rfl rfl rfl ?_
        refine TL_store_box sz27 rfl rfl rfl rfl rfl rfl rfl rfl rfl ?_
        refine TL_nil ?_
        refine T_seq ?_
        refine T_region ?_
        refine TL_pure rfl rfl rfl rfl (op_load_agg ag54 sz54 rfl rfl rfl) ?_
        obtain ⟨r38, hr38, hm⟩ := bindS hm
        refine TL_callO [(1000, 897), (1001, 898), (1002, 899)] (c_laws_toProgram p1 r38 hr38) Try.call30 rfl rfl rfl rfl rfl rfl rfl rfl rfl rfl rfl rfl rfl ?_
        refine TL_alloc 900 z27 rfl rfl rfl rfl rfl rfl rfl ?_
        refine TL_store_box sz27 rfl rfl rfl rfl rfl rfl rfl rfl rfl ?_
        refine TL_nil ?_
        refine T_seq ?_
        refine T_region ?_
        refine TL_pure rfl rfl rfl rfl (op_load_agg ag27 sz27 rfl rfl rfl) ?_
        refine TL_pure rfl rfl rfl rfl (op_load_agg ag27 sz27 rfl rfl rfl) ?_
        obtain ⟨r42, hr42, hm⟩ := bindS hm
        refine TL_callO [(1000, 901), (1001, 902), (1002, 903)] (c_impl_JoinPrograms r36 r38 r42 hr42) Try.call18 rfl rfl rfl rfl rfl rfl rfl rfl rfl rfl rfl rfl rfl ?_
        refine TL_pure rfl rfl rfl rfl (op_move rfl) ?_
        refine TL_pure rfl rfl rfl rfl (op_extract rfl rfl) ?_
        refine TL_pure rfl rfl rfl rfl (op_extract rfl rfl) ?_
        refine TL_alloc 904 z27 rfl rfl rfl rfl rfl rfl rfl ?_
        refine TL_store_box sz27 rfl rfl rfl rfl rfl rfl rfl rfl rfl ?_
        refine TL_pure rfl rfl rfl rfl (op_assign rfl) ?_
        refine TL_nil ?_
        refine T_seq ?_
        refine T_seq ?_
        refine T_region ?_
        refine TL_pure rfl rfl rfl rfl (op_load_agg ag27 sz27 rfl rfl rfl) ?_
        refine TL_pure rfl rfl rfl rfl (op_load_agg ag27 sz27 rfl rfl rfl) ?_
        obtain ⟨r47, hr47, hm⟩ := bindS hm
        refine TL_callF (c_laws_eqProgram r42.1 (Program.mk j0.1 j0.2.1 j0.2.2.1) r47 hr47) Try.call31 rfl rfl rfl rfl rfl ?_
        refine TL_pure rfl rfl rfl rfl (op_not rfl) ?_
        refine TL_pure rfl rfl rfl rfl (op_move rfl) ?_
        refine TL_join 4 (fun _ : Unit => ⟨[(2, .ptr 11 0 0), (3, .ptr 12 0 0), (6, .ptr 733 0 0), (7, .bool j0.2.2.2), (8, .ptr 896 0 0), (9, .ptr 900 0 0), (10, .ptr 904 0 0), (11, .bool r42.2), (53, .bool ((!r47) || (!(r42.2 == j0.2.2.2))))], [(11, .box [.sl 2 (List.map a_Term p0.Pre), .sl 8 (List.map a_Stmt p0.Body), .sl 2 (List.map a_Term p0.Post)]), (12, .box [.sl 2 (List.map a_Term p1.Pre), .sl 8 (List.map a_Stmt p1.Body), .sl 2 (List.map a_Term p1.Post)]), (413, .arr ⟨false, true⟩ 2 75 (List.map a_Term j0.1)), (414, .arr ⟨false, true⟩ 8 77 (List.map a_Stmt j0.2.1)), (415, .arr ⟨false, true⟩ 2 75 (List.map a_Term j0.2.2.1)), (733, .box [.ow 413, .ow 414, .ow 415]), (893, .arr ⟨false, true⟩ 2 75 (List.map a_Term r36.Pre)), (894, .arr ⟨false, true⟩ 8 77 (List.map a_Stmt r36.Body)), (895, .arr ⟨false, true⟩ 2 75 (List.map a_Term r36.Post)), (896, .box [.ow 893, .ow 894, .ow 895]), (897, .arr ⟨false, true⟩ 2 75 (List.map a_Term r38.Pre)), (898, .arr ⟨false, true⟩ 8 77 (List.map a_Stmt r38.Body)), (899, .arr ⟨false, true⟩ 2 75 (List.map a_Term r38.Post)), (900, .box [.ow 897, .ow 898, .ow 899]), (901, .arr ⟨false, true⟩ 2 75 (List.map a_Term r42.1.Pre)), (902, .arr ⟨false, true⟩ 8 77 (List.map a_Stmt r42.1.Body)), (903, .arr ⟨false, true⟩ 2 75 (List.map a_Term r42.1.Post)), (904, .box [.ow 901, .ow 902, .ow 903])]⟩) (fun _ => True) (fun _ _ => ?_) (fun hjj => ?_)
        · refine TL_nil ?_
          refine T_cond rfl (fun hq => ?_) (fun hq => ?_)
          · replace hm := condT hq hm
            refine T_seq ?_
            refine T_region ?_
            refine TL_pure rfl rfl rfl rfl (op_assign rfl) ?_
            refine TL_nil ?_
            refine T_keepH [4] [] rfl rfl rfl rfl (by rw [hF]; rfl) ?_
            refine T_ret ?_
            obtain rfl := someI hm
            refine ⟨[_], [], ⟨rfl, trivial⟩, ?_, rfl, rfl, rfl, rfl⟩
            rfl
          · replace hm := condF hq hm
            refine T_skip ?_
            refine T_seq ?_
            refine T_seq ?_
            refine T_drawZ [] mix (by kernel_rfl) rfl ?_
            obtain ⟨r56, hr56, hm⟩ := bindS hm
            obtain ⟨r57, hr57, hm⟩ := bindS hm
            refine TZ_pure 0 (by kernel_rfl) rfl rfl rfl rfl rfl (op_load_agg ag27 sz27 rfl rfl rfl) ?_
            refine TZ_pure 1 (by kernel_rfl) rfl rfl rfl rfl rfl (op_load_agg ag54 sz54 rfl rfl rfl) ?_
            refine TZ_one 2 (by kernel_rfl) rfl ?_
            refine TL_callO [(1000, 914), (1001, 915), (1002, 916)] (c_laws_toProgram p0 r56 hr56) Try.call30 rfl rfl rfl rfl rfl rfl rfl rfl rfl rfl rfl rfl rfl ?_
            refine TL_nil ?_
            refine TZ_one 3 (by kernel_rfl) rfl ?_
            refine TL_callF (c_laws_eqProgram r36 r56 r57 hr57) Try.call31 rfl rfl rfl rfl rfl ?_
            refine TL_nil ?_
            refine TZ_pure 4 (by kernel_rfl) rfl rfl rfl rfl rfl (op_not rfl) ?_
            refine TZ_done (by kernel_rfl) ?_
            refine T_cond rfl (fun hq => ?_) (fun hq => ?_)
            · replace hm := condT hq hm
              refine T_seq ?_
              refine T_region ?_
              refine TL_pure rfl rfl rfl rfl (op_assign rfl) ?_
              refine TL_nil ?_
              refine T_keepH [4] [] rfl rfl rfl rfl (by rw [hF]; rfl) ?_
              refine T_ret ?_
              obtain rfl := someI hm
              refine ⟨[_], [], ⟨rfl, trivial⟩, ?_, rfl, rfl, rfl, rfl⟩
              rfl
            · replace hm := condF hq hm
              refine T_skip ?_
              refine T_seq ?_
              refine T_seq ?_
              refine T_drawZ [] mix (by kernel_rfl) rfl ?_
              obtain ⟨r61, hr61, hm⟩ := bindS hm
              obtain ⟨r62, hr62, hm⟩ := bindS hm
              refine TZ_pure 0 (by kernel_rfl) rfl rfl rfl rfl rfl (op_load_agg ag27 sz27 rfl rfl rfl) ?_
              refine TZ_pure 1 (by kernel_rfl) rfl rfl rfl rfl rfl (op_load_agg ag54 sz54 rfl rfl rfl) ?_
              refine TZ_one 2 (by kernel_rfl) rfl ?_
              refine TL_callO [(1000, 926), (1001, 927), (1002, 928)] (c_laws_toProgram p1 r61 hr61) Try.call30 rfl rfl rfl rfl rfl rfl rfl rfl rfl rfl rfl rfl rfl ?_
              refine TL_nil ?_
              refine TZ_one 3 (by kernel_rfl) rfl ?_
              refine TL_callF (c_laws_eqProgram r38 r61 r62 hr62) Try.call31 rfl rfl rfl rfl rfl ?_
              refine TL_nil ?_
              refine TZ_pure 4 (by kernel_rfl) rfl rfl rfl rfl rfl (op_not rfl) ?_
              refine TZ_done (by kernel_rfl) ?_
              refine T_cond rfl (fun hq => ?_) (fun hq => ?_)
              · replace hm := condT hq hm
                refine T_seq ?_
                refine T_region ?_
                refine TL_pure rfl rfl rfl rfl (op_assign rfl) ?_
                refine TL_nil ?_
                refine T_keepH [4] [] rfl rfl rfl rfl (by rw [hF]; rfl) ?_
                refine T_ret ?_
                obtain rfl := someI hm
                refine ⟨[_], [], ⟨rfl, trivial⟩, ?_, rfl, rfl, rfl, rfl⟩
                rfl
              · replace hm := condF hq hm
                refine T_skip ?_
                refine T_seq ?_
                refine T_region ?_
                refine TL_pure rfl rfl rfl rfl (op_assign rfl) ?_
                refine TL_nil ?_
                refine T_seq ?_
                refine T_region ?_
                refine TL_pure rfl rfl rfl rfl (op_load_agg ag27 sz27 rfl rfl rfl) ?_
                refine TL_pure rfl rfl rfl rfl (op_move rfl) ?_
                refine TL_pin 893 (k' := ⟨true, true⟩) (by rw [hF]; rfl) rfl rfl rfl ?_
                refine TL_pin 894 (k' := ⟨true, true⟩) (by rw [hF]; rfl) rfl rfl rfl ?_
                refine TL_pin 895 (k' := ⟨true, true⟩) (by rw [hF]; rfl) rfl rfl rfl ?_
                obtain ⟨r66, hr66, hm⟩ := bindS hm
                refine TL_call [(0, 893), (1, 894), (2, 895)] [] [] (c_laws_markProgram r36 (1 : Int) r66 hr66 _ _ _) Try.call32 rfl rfl rfl rfl rfl ⟨rfl, rfl, rfl, trivial⟩ rfl rfl rfl rfl rfl rfl rfl rfl rfl rfl rfl ?_
                refine TL_pure rfl rfl rfl rfl (op_assign rfl) ?_
                refine TL_nil ?_
                refine T_seq ?_
                refine T_region ?_
                refine TL_pure rfl rfl rfl rfl (op_load_agg ag27 sz27 rfl rfl rfl) ?_
                refine TL_pure rfl rfl rfl rfl (op_move rfl) ?_
                refine TL_pin 897 (k' := ⟨true, true⟩) (by rw [hF]; rfl) rfl rfl rfl ?_
                refine TL_pin 898 (k' := ⟨true, true⟩) (by rw [hF]; rfl) rfl rfl rfl ?_
                refine TL_pin 899 (k' := ⟨true, true⟩) (by rw [hF]; rfl) rfl rfl rfl ?_
                obtain ⟨r69, hr69, hm⟩ := bindS hm
                refine TL_call [(0, 897), (1, 898), (2, 899)] [] [] (c_laws_markProgram r38 r66.1 r69 hr69 _ _ _) Try.call32 rfl rfl rfl rfl rfl ⟨rfl, rfl, rfl, trivial⟩ rfl rfl rfl rfl rfl rfl rfl rfl rfl rfl rfl ?_
                refine TL_pure rfl rfl rfl rfl (op_assign rfl) ?_
                refine TL_nil ?_
                refine T_seq ?_
                refine T_seq ?_
                refine T_region ?_
                refine TL_pure rfl rfl rfl rfl (op_move rfl) ?_
                refine TL_pure rfl rfl rfl rfl (op_lss rfl rfl) ?_
                refine TL_pure rfl rfl rfl rfl (op_move rfl) ?_
                refine TL_split 72 rfl rfl rfl (fun hq => ?_) (fun hq => ?_)
                · replace hm := condT hq hm
                  refine TL_pass rfl rfl rfl rfl rfl rfl rfl ?_
                  refine TL_pass rfl rfl rfl rfl rfl rfl rfl ?_
                  refine TL_pass rfl rfl rfl rfl rfl rfl rfl ?_
                  refine TL_pass rfl rfl rfl rfl rfl rfl rfl ?_
                  refine TL_pure rfl rfl rfl rfl (op_pick_true rfl rfl) ?_
                  refine TL_pure rfl rfl rfl rfl (op_move rfl) ?_
                  refine TL_pass rfl rfl rfl rfl rfl rfl rfl ?_
                  refine TL_pass rfl rfl rfl rfl rfl rfl rfl ?_
                  refine TL_pass rfl rfl rfl rfl rfl rfl rfl ?_
                  refine TL_pure rfl rfl rfl rfl (op_pick_true rfl rfl) ?_
                  refine TL_nil ?_
                  refine T_cond_true rfl ?_
                  refine T_seq ?_
                  refine T_region ?_
                  refine TL_pure rfl rfl rfl rfl (op_assign rfl) ?_
                  refine TL_nil ?_
                  refine T_keepH [4] [] rfl rfl rfl rfl (by rw [hF]; rfl) ?_
                  refine T_ret ?_
                  obtain rfl := someI hm
                  refine ⟨[_], [], ⟨rfl, trivial⟩, ?_, rfl, rfl, rfl, rfl⟩
                  rfl
                · replace hm := condF hq hm
                  refine TL_want rfl rfl ?_
                  refine TL_pure rfl rfl rfl rfl (op_load_agg ag27 sz27 rfl rfl rfl) ?_
                  refine TL_want rfl rfl ?_
                  refine TL_pure rfl rfl rfl rfl (op_load_agg ag27 sz27 rfl rfl rfl) ?_
                  refine TL_want rfl rfl ?_
                  obtain ⟨r75, hr75, hm⟩ := bindS hm
                  refine TL_callF (c_laws_eqProgram r42.1 (Program.mk j0.1 j0.2.1 j0.2.2.1) r75 hr75) Try.call31 rfl rfl rfl rfl rfl ?_
                  refine TL_want rfl rfl ?_
                  refine TL_pure rfl rfl rfl rfl (op_not rfl) ?_
                  refine TL_pure rfl rfl rfl rfl (op_pick_false rfl rfl) ?_
                  refine TL_pure rfl rfl rfl rfl (op_move rfl) ?_
                  refine TL_join 4 (fun _ : Unit => ⟨[(2, .ptr 11 0 0), (3, .ptr 12 0 0), (6, .ptr 733 0 0), (7, .bool j0.2.2.2), (10, .ptr 904 0 0), (82, .bool ((!r75) || (!(r42.2 == j0.2.2.2))))], [(11, .box [.sl 2 (List.map a_Term p0.Pre), .sl 8 (List.map a_Stmt p0.Body), .sl 2 (List.map a_Term p0.Post)]), (12, .box [.sl 2 (List.map a_Term p1.Pre), .sl 8 (List.map a_Stmt p1.Body), .sl 2 (List.map a_Term p1.Post)]), (413, .arr ⟨false, true⟩ 2 75 (List.map a_Term j0.1)), (414, .arr ⟨false, true⟩ 8 77 (List.map a_Stmt j0.2.1)), (415, .arr ⟨false, true⟩ 2 75 (List.map a_Term j0.2.2.1)), (733, .box [.ow 413, .ow 414, .ow 415]), (901, .arr ⟨false, true⟩ 2 75 (List.map a_Term r42.1.Pre)), (902, .arr ⟨false, true⟩ 8 77 (List.map a_Stmt r42.1.Body)), (903, .arr ⟨false, true⟩ 2 75 (List.map a_Term r42.1.Post)), (904, .box [.ow 901, .ow 902, .ow 903])]⟩) (fun _ => True) (fun _ _ => ?_) (fun hjj => ?_)
                  · refine TL_nil ?_
                    refine T_cond rfl (fun hq => ?_) (fun hq => ?_)
                    · replace hm := condT hq hm
                      refine T_seq ?_
                      refine T_region ?_
                      refine TL_pure rfl rfl rfl rfl (op_assign rfl) ?_
                      refine TL_nil ?_
                      refine T_keepH [4] [] rfl rfl rfl rfl (by rw [hF]; rfl) ?_
                      refine T_ret ?_
                      obtain rfl := someI hm
                      refine ⟨[_], [], ⟨rfl, trivial⟩, ?_, rfl, rfl, rfl, rfl⟩
                      rfl
                    · replace hm := condF hq hm
                      refine T_skip ?_
                      refine T_seq ?_
                      refine T_region ?_
                      refine TL_pure rfl rfl rfl rfl (op_assign rfl) ?_
                      refine TL_nil ?_
                      refine T_seq ?_
                      refine T_region ?_
                      refine TL_pure rfl rfl rfl rfl (op_load_agg ag27 sz27 rfl rfl rfl) ?_
                      refine TL_pure rfl rfl rfl rfl (op_move rfl) ?_
                      refine TL_pin 901 (k' := ⟨true, true⟩) (by rw [hF]; rfl) rfl rfl rfl ?_
                      refine TL_pin 902 (k' := ⟨true, true⟩) (by rw [hF]; rfl) rfl rfl rfl ?_
                      refine TL_pin 903 (k' := ⟨true, true⟩) (by rw [hF]; rfl) rfl rfl rfl ?_
                      obtain ⟨r85, hr85, hm⟩ := bindS hm
                      refine TL_call [(0, 901), (1, 902), (2, 903)] [] [] (c_laws_markProgram r42.1 (1 : Int) r85 hr85 _ _ _) Try.call32 rfl rfl rfl rfl rfl ⟨rfl, rfl, rfl, trivial⟩ rfl rfl rfl rfl rfl rfl rfl rfl rfl rfl rfl ?_
                      refine TL_pure rfl rfl rfl rfl (op_assign rfl) ?_
                      refine TL_nil ?_
                      refine T_seq ?_
                      refine T_region ?_
                      refine TL_pure rfl rfl rfl rfl (op_assign rfl) ?_
                      refine TL_nil ?_
                      refine T_seq ?_
                      refine T_region ?_
                      refine TL_pure rfl rfl rfl rfl (op_load_agg ag27 sz27 rfl rfl rfl) ?_
                      refine TL_pure rfl rfl rfl rfl (op_move rfl) ?_
                      obtain ⟨r88, hr88, hm⟩ := bindS hm
                      refine TL_callF (c_laws_heldProgram (Program.mk r85.2.1 r85.2.2.1 r85.2.2.2) (1 : Int) r88 hr88) Try.call33 rfl rfl rfl rfl rfl ?_
                      refine TL_pure rfl rfl rfl rfl (op_assign rfl) ?_
                      refine TL_nil ?_
                      refine T_seq ?_
                      refine T_seq ?_
                      refine T_region ?_
                      refine TL_pure rfl rfl rfl rfl (op_move rfl) ?_
                      refine TL_pure rfl rfl rfl rfl (op_lss rfl rfl) ?_
                      refine TL_nil ?_
                      refine T_cond rfl (fun hq => ?_) (fun hq => ?_)
                      · replace hm := condT hq hm
                        refine T_seq ?_
                        refine T_region ?_
                        refine TL_pure rfl rfl rfl rfl (op_assign rfl) ?_
                        refine TL_nil ?_
                        refine T_keepH [4] [] rfl rfl rfl rfl (by rw [hF]; rfl) ?_
                        refine T_ret ?_
                        obtain rfl := someI hm
                        refine ⟨[_], [], ⟨rfl, trivial⟩, ?_, rfl, rfl, rfl, rfl⟩
                        rfl
                      · replace hm := condF hq hm
                        refine T_skip ?_
                        refine T_seq ?_
                        refine T_seq ?_
                        refine T_region ?_
                        refine TL_pure rfl rfl rfl rfl (op_move rfl) ?_
                        refine TL_pure rfl rfl rfl rfl (op_move rfl) ?_
                        refine TL_pure rfl rfl rfl rfl (op_neq rfl rfl) ?_
                        refine TL_nil ?_
                        refine T_cond rfl (fun hq => ?_) (fun hq => ?_)
                        · replace hm := condT hq hm
                          refine T_seq ?_
                          refine T_region ?_
                          refine TL_pure rfl rfl rfl rfl (op_assign rfl) ?_
                          refine TL_nil ?_
                          refine T_keepH [4] [] rfl rfl rfl rfl (by rw [hF]; rfl) ?_
                          refine T_ret ?_
                          obtain rfl := someI hm
                          refine ⟨[_], [], ⟨rfl, trivial⟩, ?_, rfl, rfl, rfl, rfl⟩
                          rfl
                        · replace hm := condF hq hm
                          refine T_skip ?_
                          refine T_join (fun (j1 : (List Term) × (List Stmt) × (List Term) × Bool) => ⟨[(6, .ptr 733 0 0), (7, .bool j0.2.2.2), (10, .ptr 904 0 0), (13, .int .i64 r85.1), (15, .ptr 1649 0 0), (16, .bool j1.2.2.2)], [(413, .arr ⟨false, true⟩ 2 75 (List.map a_Term j0.1)), (414, .arr ⟨false, true⟩ 8 77 (List.map a_Stmt j0.2.1)), (415, .arr ⟨false, true⟩ 2 75 (List.map a_Term j0.2.2.1)), (733, .box [.ow 413, .ow 414, .ow 415]), (901, .arr ⟨true, true⟩ 2 75 (List.map a_Term r85.2.1)), (902, .arr ⟨true, true⟩ 8 77 (List.map a_Stmt r85.2.2.1)), (903, .arr ⟨true, true⟩ 2 75 (List.map a_Term r85.2.2.2)), (904, .box [.ow 901, .ow 902, .ow 903]), (1329, .arr ⟨false, true⟩ 2 75 (List.map a_Term j1.1)), (1330, .arr ⟨false, true⟩ 8 77 (List.map a_Stmt j1.2.1)), (1331, .arr ⟨false, true⟩ 2 75 (List.map a_Term j1.2.2.1)), (1649, .box [.ow 1329, .ow 1330, .ow 1331])]⟩) (fun j1 => m_laws_FnExactJoinPrograms_J1 j0 r85 j1 = some out) (fun j1 hm => ?_) (fun hj1 => ?_)
                          · unfold m_laws_FnExactJoinPrograms_J1 at hm
                            refine T_seq ?_
                            refine T_seq ?_
                            refine T_region ?_
                            refine TL_pure rfl rfl rfl rfl (op_load_agg ag27 sz27 rfl rfl rfl) ?_
                            refine TL_pure rfl rfl rfl rfl (op_load_agg ag27 sz27 rfl rfl rfl) ?_
                            obtain ⟨r104, hr104, hm⟩ := bindS hm
                            refine TL_callF (c_laws_eqProgram (Program.mk j1.1 j1.2.1 j1.2.2.1) (Program.mk j0.1 j0.2.1 j0.2.2.1) r104 hr104) Try.call31 rfl rfl rfl rfl rfl ?_
                            refine TL_pure rfl rfl rfl rfl (op_not rfl) ?_
                            refine TL_pure rfl rfl rfl rfl (op_move rfl) ?_
                            refine TL_join 4 (fun _ : Unit => ⟨[(10, .ptr 904 0 0), (13, .int .i64 r85.1), (110, .bool ((!r104) || (!(j1.2.2.2 == j0.2.2.2))))], [(901, .arr ⟨true, true⟩ 2 75 (List.map a_Term r85.2.1)), (902, .arr ⟨true, true⟩ 8 77 (List.map a_Stmt r85.2.2.1)), (903, .arr ⟨true, true⟩ 2 75 (List.map a_Term r85.2.2.2)), (904, .box [.ow 901, .ow 902, .ow 903])]⟩) (fun _ => True) (fun _ _ => ?_) (fun hjj => ?_)
                            · refine TL_nil ?_
                              refine T_cond rfl (fun hq => ?_) (fun hq => ?_)
                              · replace hm := condT hq hm
                                refine T_seq ?_
                                refine T_region ?_
                                refine TL_pure rfl rfl rfl rfl (op_assign rfl) ?_
                                refine TL_nil ?_
                                refine T_keepH [4] [] rfl rfl rfl rfl (by rw [hF]; rfl) ?_
                                refine T_ret ?_
                                obtain rfl := someI hm
                                refine ⟨[_], [], ⟨rfl, trivial⟩, ?_, rfl, rfl, rfl, rfl⟩
                                rfl
                              · replace hm := condF hq hm
                                refine T_skip ?_
                                refine T_seq ?_
                                refine T_region ?_
                                refine TL_pure rfl rfl rfl rfl (op_assign rfl) ?_
                                refine TL_nil ?_
                                refine T_seq ?_
                                refine T_region ?_
                                refine TL_pure rfl rfl rfl rfl (op_load_agg ag27 sz27 rfl rfl rfl) ?_
                                refine TL_pure rfl rfl rfl rfl (op_move rfl) ?_
                                obtain ⟨r113, hr113, hm⟩ := bindS hm
                                refine TL_callF (c_laws_heldProgram (Program.mk r85.2.1 r85.2.2.1 r85.2.2.2) (1 : Int) r113 hr113) Try.call33 rfl rfl rfl rfl rfl ?_
                                refine TL_pure rfl rfl rfl rfl (op_assign rfl) ?_
                                refine TL_nil ?_
                                refine T_seq ?_
                                refine T_seq ?_
                                refine T_region ?_
                                refine TL_pure rfl rfl rfl rfl (op_move rfl) ?_
                                refine TL_pure rfl rfl rfl rfl (op_lss rfl rfl) ?_
                                refine TL_nil ?_
                                refine T_cond rfl (fun hq => ?_) (fun hq => ?_)
                                · replace hm := condT hq hm
                                  refine T_seq ?_
                                  refine T_region ?_
                                  refine TL_pure rfl rfl rfl rfl (op_assign rfl) ?_
                                  refine TL_nil ?_
                                  refine T_keepH [4] [] rfl rfl rfl rfl (by rw [hF]; rfl) ?_
                                  refine T_ret ?_
                                  obtain rfl := someI hm
                                  refine ⟨[_], [], ⟨rfl, trivial⟩, ?_, rfl, rfl, rfl, rfl⟩
                                  rfl
                                · replace hm := condF hq hm
                                  refine T_skip ?_
                                  refine T_seq ?_
                                  refine T_seq ?_
                                  refine T_region ?_
                                  refine TL_pure rfl rfl rfl rfl (op_move rfl) ?_
                                  refine TL_pure rfl rfl rfl rfl (op_move rfl) ?_
                                  refine TL_pure rfl rfl rfl rfl (op_neq rfl rfl) ?_
                                  refine TL_nil ?_
                                  refine T_cond rfl (fun hq => ?_) (fun hq => ?_)
                                  · replace hm := condT hq hm
                                    refine T_seq ?_
                                    refine T_region ?_
                                    refine TL_pure rfl rfl rfl rfl (op_assign rfl) ?_
                                    refine TL_nil ?_
                                    refine T_keepH [4] [] rfl rfl rfl rfl (by rw [hF]; rfl) ?_
                                    refine T_ret ?_
                                    obtain rfl := someI hm
                                    refine ⟨[_], [], ⟨rfl, trivial⟩, ?_, rfl, rfl, rfl, rfl⟩
                                    rfl
                                  · replace hm := condF hq hm
                                    refine T_skip ?_
                                    refine T_seq ?_
                                    refine T_region ?_
                                    refine TL_pure rfl rfl rfl rfl (op_assign rfl) ?_
                                    refine TL_nil ?_
                                    refine T_keepH [4] [] rfl rfl rfl rfl (by rw [hF]; rfl) ?_
                                    refine T_ret ?_
                                    obtain rfl := someI hm
                                    refine ⟨[_], [], ⟨rfl, trivial⟩, ?_, rfl, rfl, rfl, rfl⟩
                                    rfl
                            · refine TL_split 106 rfl rfl rfl (fun hq => ?_) (fun hq => ?_)
                              · refine TL_pass rfl rfl rfl rfl rfl rfl rfl ?_
                                refine TL_pass rfl rfl rfl rfl rfl rfl rfl ?_
                                refine TL_pass rfl rfl rfl rfl rfl rfl rfl ?_
                                refine TL_pure rfl rfl rfl rfl (op_pick_true rfl rfl) ?_
                                refine TL_keepH [10, 13, 110] [901, 902, 903, 904] rfl rfl rfl rfl (by rw [hF]; rfl) ?_
                                exact TL_cast _ (by first | (rw [hq, Bool.true_or]; done) | (rw [hq]; rfl)) (hjj () trivial)
                              · refine TL_want rfl rfl ?_
                                refine TL_pure rfl rfl rfl rfl (op_move rfl) ?_
                                refine TL_want rfl rfl ?_
                                refine TL_pure rfl rfl rfl rfl (op_move rfl) ?_
                                refine TL_want rfl rfl ?_
                                refine TL_pure rfl rfl rfl rfl (op_neqB Try.underlying4 rfl rfl) ?_
                                refine TL_pure rfl rfl rfl rfl (op_pick_false rfl rfl) ?_
                                refine TL_keepH [10, 13, 110] [901, 902, 903, 904] rfl rfl rfl rfl (by rw [hF]; rfl) ?_
                                exact TL_cast _ (by first | (rw [hq, Bool.false_or]; done) | (rw [hq]; rfl)) (hjj () trivial)
                          · refine T_drawZ [9] mix (by kernel_rfl) rfl ?_
                            obtain ⟨r96, hr96, hm⟩ := bindS hm
                            obtain ⟨r98, hr98, hm⟩ := bindS hm
                            obtain ⟨r99, hr99, hm⟩ := bindS hm
                            refine TZ_pure 0 (by kernel_rfl) rfl rfl rfl rfl rfl (op_load_agg ag54 sz54 rfl rfl rfl) ?_
                            refine TZ_pure 2 (by kernel_rfl) rfl rfl rfl rfl rfl (op_load_agg ag54 sz54 rfl rfl rfl) ?_
                            refine TZ_cut 6 [true, true, true, true, true, false, false, false, false, false, false] ⟨[(2, .ptr 11 0 0), (3, .ptr 12 0 0), (6, .ptr 733 0 0), (7, .bool j0.2.2.2), (10, .ptr 904 0 0), (13, .int .i64 r85.1), (14, .int .i64 r88), (82, .bool ((!r75) || (!(r42.2 == j0.2.2.2)))), (83, .agg [.ow 901, .ow 902, .ow 903]), (84, .int .i64 (1 : Int)), (85, .int .i64 r85.1), (86, .agg [.ow 901, .ow 902, .ow 903]), (87, .int .i64 (1 : Int)), (88, .int .i64 r88), (89, .int .i64 r88), (90, .bool (decide (r88 < (0 : Int)))), (91, .int .i64 r88), (92, .int .i64 r85.1), (93, .bool (!decide (r88 = r85.1))), (95, .agg [.sl 2 (List.map a_Term p0.Pre), .sl 8 (List.map a_Stmt p0.Body), .sl 2 (List.map a_Term p0.Post)]), (96, .agg [.ow 1969, .ow 1970, .ow 1971]), (97, .agg [.sl 2 (List.map a_Term p1.Pre), .sl 8 (List.map a_Stmt p1.Body), .sl 2 (List.map a_Term p1.Post)]), (98, .agg [.ow 2129, .ow 2130, .ow 2131]), (99, .tup [.agg [.ow 2209, .ow 2210, .ow 2211], .bool r99.2])], [(11, .box [.sl 2 (List.map a_Term p0.Pre), .sl 8 (List.map a_Stmt p0.Body), .sl 2 (List.map a_Term p0.Post)]), (12, .box [.sl 2 (List.map a_Term p1.Pre), .sl 8 (List.map a_Stmt p1.Body), .sl 2 (List.map a_Term p1.Post)]), (413, .arr ⟨false, true⟩ 2 75 (List.map a_Term j0.1)), (414, .arr ⟨false, true⟩ 8 77 (List.map a_Stmt j0.2.1)), (415, .arr ⟨false, true⟩ 2 75 (List.map a_Term j0.2.2.1)), (733, .box [.ow 413, .ow 414, .ow 415]), (901, .arr ⟨true, true⟩ 2 75 (List.map a_Term r85.2.1)), (902, .arr ⟨true, true⟩ 8 77 (List.map a_Stmt r85.2.2.1)), (903, .arr ⟨true, true⟩ 2 75 (List.map a_Term r85.2.2.2)), (904, .box [.ow 901, .ow 902, .ow 903]), (1969, .arr ⟨false, true⟩ 2 75 (List.map a_Term r96.Pre)), (1970, .arr ⟨false, true⟩ 8 77 (List.map a_Stmt r96.Body)), (1971, .arr ⟨false, true⟩ 2 75 (List.map a_Term r96.Post)), (2129, .arr ⟨false, true⟩ 2 75 (List.map a_Term r98.Pre)), (2130, .arr ⟨false, true⟩ 8 77 (List.map a_Stmt r98.Body)), (2131, .arr ⟨false, true⟩ 2 75 (List.map a_Term r98.Post)), (2209, .arr ⟨false, true⟩ 2 75 (List.map a_Term r99.1.Pre)), (2210, .arr ⟨false, true⟩ 8 77 (List.map a_Stmt r99.1.Body)), (2211, .arr ⟨false, true⟩ 2 75 (List.map a_Term r99.1.Post))]⟩ ?_ (fun hS1808_0 => ?_)
                            · refine TZ_pure 5 (by kernel_rfl) rfl rfl rfl rfl rfl (op_move rfl) ?_
                              refine TZ_pure 6 (by kernel_rfl) rfl rfl rfl rfl rfl (op_extract rfl rfl) ?_
                              refine TZ_pure 7 (by kernel_rfl) rfl rfl rfl rfl rfl (op_extract rfl rfl) ?_
                              refine TZ_one 8 (by kernel_rfl) rfl ?_
                              refine TL_alloc 2529 z27 rfl rfl rfl rfl rfl rfl rfl ?_
                              refine TL_nil ?_
                              refine TZ_one 9 (by kernel_rfl) rfl ?_
                              refine TL_store_box sz27 rfl rfl rfl rfl rfl rfl rfl rfl rfl ?_
                              refine TL_nil ?_
                              refine TZ_pure 10 (by kernel_rfl) rfl rfl rfl rfl rfl (op_assign rfl) ?_
                              refine TZ_done (by kernel_rfl) ?_
                              refine T_keepH [6, 7, 10, 13, 15, 16] [413, 414, 415, 733, 901, 902, 903, 904, 2209, 2210, 2211, 2529] rfl rfl rfl rfl (by rw [hF]; rfl) ?_
                              refine T_ren [(413, 413), (414, 414), (415, 415), (733, 733), (901, 901), (902, 902), (903, 903), (904, 904), (2209, 1329), (2210, 1330), (2211, 1331), (2529, 1649)] rfl rfl rfl (by rw [hF]; rfl) ?_
                              exact hj1 (r99.1.Pre, r99.1.Body, r99.1.Post, r99.2) hm
                            refine TZ_cut 6 [true, true, true, true, false, false, false, false, true, false, false] ⟨[(2, .ptr 11 0 0), (3, .ptr 12 0 0), (6, .ptr 733 0 0), (7, .bool j0.2.2.2), (10, .ptr 904 0 0), (13, .int .i64 r85.1), (14, .int .i64 r88), (15, .ptr 2529 0 0), (82, .bool ((!r75) || (!(r42.2 == j0.2.2.2)))), (83, .agg [.ow 901, .ow 902, .ow 903]), (84, .int .i64 (1 : Int)), (85, .int .i64 r85.1), (86, .agg [.ow 901, .ow 902, .ow 903]), (87, .int .i64 (1 : Int)), (88, .int .i64 r88), (89, .int .i64 r88), (90, .bool (decide (r88 < (0 : Int)))), (91, .int .i64 r88), (92, .int .i64 r85.1), (93, .bool (!decide (r88 = r85.1))), (95, .agg [.sl 2 (List.map a_Term p0.Pre), .sl 8 (List.map a_Stmt p0.Body), .sl 2 (List.map a_Term p0.Post)]), (96, .agg [.ow 1969, .ow 1970, .ow 1971]), (97, .agg [.sl 2 (List.map a_Term p1.Pre), .sl 8 (List.map a_Stmt p1.Body), .sl 2 (List.map a_Term p1.Post)]), (98, .agg [.ow 2129, .ow 2130, .ow 2131])], [(11, .box [.sl 2 (List.map a_Term p0.Pre), .sl 8 (List.map a_Stmt p0.Body), .sl 2 (List.map a_Term p0.Post)]), (12, .box [.sl 2 (List.map a_Term p1.Pre), .sl 8 (List.map a_Stmt p1.Body), .sl 2 (List.map a_Term p1.Post)]), (413, .arr ⟨false, true⟩ 2 75 (List.map a_Term j0.1)), (414, .arr ⟨false, true⟩ 8 77 (List.map a_Stmt j0.2.1)), (415, .arr ⟨false, true⟩ 2 75 (List.map a_Term j0.2.2.1)), (733, .box [.ow 413, .ow 414, .ow 415]), (901, .arr ⟨true, true⟩ 2 75 (List.map a_Term r85.2.1)), (902, .arr ⟨true, true⟩ 8 77 (List.map a_Stmt r85.2.2.1)), (903, .arr ⟨true, true⟩ 2 75 (List.map a_Term r85.2.2.2)), (904, .box [.ow 901, .ow 902, .ow 903]), (1969, .arr ⟨false, true⟩ 2 75 (List.map a_Term r96.Pre)), (1970, .arr ⟨false, true⟩ 8 77 (List.map a_Stmt r96.Body)), (1971, .arr ⟨false, true⟩ 2 75 (List.map a_Term r96.Post)), (2129, .arr ⟨false, true⟩ 2 75 (List.map a_Term r98.Pre)), (2130, .arr ⟨false, true⟩ 8 77 (List.map a_Stmt r98.Body)), (2131, .arr ⟨false, true⟩ 2 75 (List.map a_Term r98.Post)), (2529, .box [.snil, .snil, .snil])]⟩ ?_ (fun hS1808_1 => ?_)
                            · refine TZ_one 4 (by kernel_rfl) rfl ?_
                              refine TL_callO [(1000, 2209), (1001, 2210), (1002, 2211)] (c_impl_JoinPrograms r96 r98 r99 hr99) Try.call18 rfl rfl rfl rfl rfl rfl rfl rfl rfl rfl rfl rfl rfl ?_
                              refine TL_nil ?_
                              refine TZ_pure 5 (by kernel_rfl) rfl rfl rfl rfl rfl (op_move rfl) ?_
                              refine TZ_pure 6 (by kernel_rfl) rfl rfl rfl rfl rfl (op_extract rfl rfl) ?_
                              refine TZ_pure 7 (by kernel_rfl) rfl rfl rfl rfl rfl (op_extract rfl rfl) ?_
                              refine TZ_one 9 (by kernel_rfl) rfl ?_
                              refine TL_store_box sz27 rfl rfl rfl rfl rfl rfl rfl rfl rfl ?_
                              refine TL_nil ?_
                              refine TZ_pure 10 (by kernel_rfl) rfl rfl rfl rfl rfl (op_assign rfl) ?_
                              refine TZ_done (by kernel_rfl) ?_
                              refine T_keepH [6, 7, 10, 13, 15, 16] [413, 414, 415, 733, 901, 902, 903, 904, 2209, 2210, 2211, 2529] rfl rfl rfl rfl (by rw [hF]; rfl) ?_
                              refine T_ren [(413, 413), (414, 414), (415, 415), (733, 733), (901, 901), (902, 902), (903, 903), (904, 904), (2209, 1329), (2210, 1330), (2211, 1331), (2529, 1649)] rfl rfl rfl (by rw [hF]; rfl) ?_
                              exact hj1 (r99.1.Pre, r99.1.Body, r99.1.Post, r99.2) hm
                            refine TZ_cut 7 [true, true, true, true, false, false, false, false, false, false, false] ⟨[(2, .ptr 11 0 0), (3, .ptr 12 0 0), (6, .ptr 733 0 0), (7, .bool j0.2.2.2), (10, .ptr 904 0 0), (13, .int .i64 r85.1), (14, .int .i64 r88), (82, .bool ((!r75) || (!(r42.2 == j0.2.2.2)))), (83, .agg [.ow 901, .ow 902, .ow 903]), (84, .int .i64 (1 : Int)), (85, .int .i64 r85.1), (86, .agg [.ow 901, .ow 902, .ow 903]), (87, .int .i64 (1 : Int)), (88, .int .i64 r88), (89, .int .i64 r88), (90, .bool (decide (r88 < (0 : Int)))), (91, .int .i64 r88), (92, .int .i64 r85.1), (93, .bool (!decide (r88 = r85.1))), (95, .agg [.sl 2 (List.map a_Term p0.Pre), .sl 8 (List.map a_Stmt p0.Body), .sl 2 (List.map a_Term p0.Post)]), (96, .agg [.ow 1969, .ow 1970, .ow 1971]), (97, .agg [.sl 2 (List.map a_Term p1.Pre), .sl 8 (List.map a_Stmt p1.Body), .sl 2 (List.map a_Term p1.Post)]), (98, .agg [.ow 2129, .ow 2130, .ow 2131])], [(11, .box [.sl 2 (List.map a_Term p0.Pre), .sl 8 (List.map a_Stmt p0.Body), .sl 2 (List.map a_Term p0.Post)]), (12, .box [.sl 2 (List.map a_Term p1.Pre), .sl 8 (List.map a_Stmt p1.Body), .sl 2 (List.map a_Term p1.Post)]), (413, .arr ⟨false, true⟩ 2 75 (List.map a_Term j0.1)), (414, .arr ⟨false, true⟩ 8 77 (List.map a_Stmt j0.2.1)), (415, .arr ⟨false, true⟩ 2 75 (List.map a_Term j0.2.2.1)), (733, .box [.ow 413, .ow 414, .ow 415]), (901, .arr ⟨true, true⟩ 2 75 (List.map a_Term r85.2.1)), (902, .arr ⟨true, true⟩ 8 77 (List.map a_Stmt r85.2.2.1)), (903, .arr ⟨true, true⟩ 2 75 (List.map a_Term r85.2.2.2)), (904, .box [.ow 901, .ow 902, .ow 903]), (1969, .arr ⟨false, true⟩ 2 75 (List.map a_Term r96.Pre)), (1970, .arr ⟨false, true⟩ 8 77 (List.map a_Stmt r96.Body)), (1971, .arr ⟨false, true⟩ 2 75 (List.map a_Term r96.Post)), (2129, .arr ⟨false, true⟩ 2 75 (List.map a_Term r98.Pre)), (2130, .arr ⟨false, true⟩ 8 77 (List.map a_Stmt r98.Body)), (2131, .arr ⟨false, true⟩ 2 75 (List.map a_Term r98.Post))]⟩ ?_ (fun hS1808_2 => ?_)
                            · refine TZ_each [4, 8] (by kernel_rfl) rfl ?_
                              refine ⟨?_, ?_⟩
                              · refine ⟨_, rfl, ?_⟩
                                refine TL_callO [(1000, 2209), (1001, 2210), (1002, 2211)] (c_impl_JoinPrograms r96 r98 r99 hr99) Try.call18 rfl rfl rfl rfl rfl rfl rfl rfl rfl rfl rfl rfl rfl ?_
                                refine TL_nil ?_
                                refine TZ_keepH [2, 3, 6, 7, 10, 13, 14, 82, 83, 84, 85, 86, 87, 88, 89, 90, 91, 92, 93, 95, 96, 97, 98, 99] [11, 12, 413, 414, 415, 733, 901, 902, 903, 904, 1969, 1970, 1971, 2129, 2130, 2131, 2209, 2210, 2211] rfl rfl rfl rfl (by rw [hF]; rfl) ?_
                                exact hS1808_0
                              · refine ⟨_, rfl, ?_⟩
                                refine TL_alloc 2529 z27 rfl rfl rfl rfl rfl rfl rfl ?_
                                refine TL_nil ?_
                                refine TZ_keepH [2, 3, 6, 7, 10, 13, 14, 15, 82, 83, 84, 85, 86, 87, 88, 89, 90, 91, 92, 93, 95, 96, 97, 98] [11, 12, 413, 414, 415, 733, 901, 902, 903, 904, 1969, 1970, 1971, 2129, 2130, 2131, 2529] rfl rfl rfl rfl (by rw [hF]; rfl) ?_
                                exact hS1808_1
                            refine TZ_cut 7 [true, true, true, false, false, false, false, false, true, false, false] ⟨[(2, .ptr 11 0 0), (3, .ptr 12 0 0), (6, .ptr 733 0 0), (7, .bool j0.2.2.2), (10, .ptr 904 0 0), (13, .int .i64 r85.1), (14, .int .i64 r88), (15, .ptr 2529 0 0), (82, .bool ((!r75) || (!(r42.2 == j0.2.2.2)))), (83, .agg [.ow 901, .ow 902, .ow 903]), (84, .int .i64 (1 : Int)), (85, .int .i64 r85.1), (86, .agg [.ow 901, .ow 902, .ow 903]), (87, .int .i64 (1 : Int)), (88, .int .i64 r88), (89, .int .i64 r88), (90, .bool (decide (r88 < (0 : Int)))), (91, .int .i64 r88), (92, .int .i64 r85.1), (93, .bool (!decide (r88 = r85.1))), (95, .agg [.sl 2 (List.map a_Term p0.Pre), .sl 8 (List.map a_Stmt p0.Body), .sl 2 (List.map a_Term p0.Post)]), (96, .agg [.ow 1969, .ow 1970, .ow 1971]), (97, .agg [.sl 2 (List.map a_Term p1.Pre), .sl 8 (List.map a_Stmt p1.Body), .sl 2 (List.map a_Term p1.Post)])], [(11, .box [.sl 2 (List.map a_Term p0.Pre), .sl 8 (List.map a_Stmt p0.Body), .sl 2 (List.map a_Term p0.Post)]), (12, .box [.sl 2 (List.map a_Term p1.Pre), .sl 8 (List.map a_Stmt p1.Body), .sl 2 (List.map a_Term p1.Post)]), (413, .arr ⟨false, true⟩ 2 75 (List.map a_Term j0.1)), (414, .arr ⟨false, true⟩ 8 77 (List.map a_Stmt j0.2.1)), (415, .arr ⟨false, true⟩ 2 75 (List.map a_Term j0.2.2.1)), (733, .box [.ow 413, .ow 414, .ow 415]), (901, .arr ⟨true, true⟩ 2 75 (List.map a_Term r85.2.1)), (902, .arr ⟨true, true⟩ 8 77 (List.map a_Stmt r85.2.2.1)), (903, .arr ⟨true, true⟩ 2 75 (List.map a_Term r85.2.2.2)), (904, .box [.ow 901, .ow 902, .ow 903]), (1969, .arr ⟨false, true⟩ 2 75 (List.map a_Term r96.Pre)), (1970, .arr ⟨false, true⟩ 8 77 (List.map a_Stmt r96.Body)), (1971, .arr ⟨false, true⟩ 2 75 (List.map a_Term r96.Post)), (2529, .box [.snil, .snil, .snil])]⟩ ?_ (fun hS1808_3 => ?_)
                            · refine TZ_one 3 (by kernel_rfl) rfl ?_
                              refine TL_callO [(1000, 2129), (1001, 2130), (1002, 2131)] (c_laws_toProgram p1 r98 hr98) Try.call30 rfl rfl rfl rfl rfl rfl rfl rfl rfl rfl rfl rfl rfl ?_
                              refine TL_nil ?_
                              refine TZ_one 4 (by kernel_rfl) rfl ?_
                              refine TL_callO [(1000, 2209), (1001, 2210), (1002, 2211)] (c_impl_JoinPrograms r96 r98 r99 hr99) Try.call18 rfl rfl rfl rfl rfl rfl rfl rfl rfl rfl rfl rfl rfl ?_
                              refine TL_nil ?_
                              refine TZ_pure 5 (by kernel_rfl) rfl rfl rfl rfl rfl (op_move rfl) ?_
                              refine TZ_pure 6 (by kernel_rfl) rfl rfl rfl rfl rfl (op_extract rfl rfl) ?_
                              refine TZ_pure 7 (by kernel_rfl) rfl rfl rfl rfl rfl (op_extract rfl rfl) ?_
                              refine TZ_one 9 (by kernel_rfl) rfl ?_
                              refine TL_store_box sz27 rfl rfl rfl rfl rfl rfl rfl rfl rfl ?_
                              refine TL_nil ?_
                              refine TZ_pure 10 (by kernel_rfl) rfl rfl rfl rfl rfl (op_assign rfl) ?_
                              refine TZ_done (by kernel_rfl) ?_
                              refine T_keepH [6, 7, 10, 13, 15, 16] [413, 414, 415, 733, 901, 902, 903, 904, 2209, 2210, 2211, 2529] rfl rfl rfl rfl (by rw [hF]; rfl) ?_
                              refine T_ren [(413, 413), (414, 414), (415, 415), (733, 733), (901, 901), (902, 902), (903, 903), (904, 904), (2209, 1329), (2210, 1330), (2211, 1331), (2529, 1649)] rfl rfl rfl (by rw [hF]; rfl) ?_
                              exact hj1 (r99.1.Pre, r99.1.Body, r99.1.Post, r99.2) hm
                            refine TZ_cut 8 [true, true, true, false, false, false, false, false, false, false, false] ⟨[(2, .ptr 11 0 0), (3, .ptr 12 0 0), (6, .ptr 733 0 0), (7, .bool j0.2.2.2), (10, .ptr 904 0 0), (13, .int .i64 r85.1), (14, .int .i64 r88), (82, .bool ((!r75) || (!(r42.2 == j0.2.2.2)))), (83, .agg [.ow 901, .ow 902, .ow 903]), (84, .int .i64 (1 : Int)), (85, .int .i64 r85.1), (86, .agg [.ow 901, .ow 902, .ow 903]), (87, .int .i64 (1 : Int)), (88, .int .i64 r88), (89, .int .i64 r88), (90, .bool (decide (r88 < (0 : Int)))), (91, .int .i64 r88), (92, .int .i64 r85.1), (93, .bool (!decide (r88 = r85.1))), (95, .agg [.sl 2 (List.map a_Term p0.Pre), .sl 8 (List.map a_Stmt p0.Body), .sl 2 (List.map a_Term p0.Post)]), (96, .agg [.ow 1969, .ow 1970, .ow 1971]), (97, .agg [.sl 2 (List.map a_Term p1.Pre), .sl 8 (List.map a_Stmt p1.Body), .sl 2 (List.map a_Term p1.Post)])], [(11, .box [.sl 2 (List.map a_Term p0.Pre), .sl 8 (List.map a_Stmt p0.Body), .sl 2 (List.map a_Term p0.Post)]), (12, .box [.sl 2 (List.map a_Term p1.Pre), .sl 8 (List.map a_Stmt p1.Body), .sl 2 (List.map a_Term p1.Post)]), (413, .arr ⟨false, true⟩ 2 75 (List.map a_Term j0.1)), (414, .arr ⟨false, true⟩ 8 77 (List.map a_Stmt j0.2.1)), (415, .arr ⟨false, true⟩ 2 75 (List.map a_Term j0.2.2.1)), (733, .box [.ow 413, .ow 414, .ow 415]), (901, .arr ⟨true, true⟩ 2 75 (List.map a_Term r85.2.1)), (902, .arr ⟨true, true⟩ 8 77 (List.map a_Stmt r85.2.2.1)), (903, .arr ⟨true, true⟩ 2 75 (List.map a_Term r85.2.2.2)), (904, .box [.ow 901, .ow 902, .ow 903]), (1969, .arr ⟨false, true⟩ 2 75 (List.map a_Term r96.Pre)), (1970, .arr ⟨false, true⟩ 8 77 (List.map a_Stmt r96.Body)), (1971, .arr ⟨false, true⟩ 2 75 (List.map a_Term r96.Post))]⟩ ?_ (fun hS1808_4 => ?_)
                            · refine TZ_each [3, 8] (by kernel_rfl) rfl ?_
                              refine ⟨?_, ?_⟩
                              · refine ⟨_, rfl, ?_⟩
                                refine TL_callO [(1000, 2129), (1001, 2130), (1002, 2131)] (c_laws_toProgram p1 r98 hr98) Try.call30 rfl rfl rfl rfl rfl rfl rfl rfl rfl rfl rfl rfl rfl ?_
                                refine TL_nil ?_
                                refine TZ_keepH [2, 3, 6, 7, 10, 13, 14, 82, 83, 84, 85, 86, 87, 88, 89, 90, 91, 92, 93, 95, 96, 97, 98] [11, 12, 413, 414, 415, 733, 901, 902, 903, 904, 1969, 1970, 1971, 2129, 2130, 2131] rfl rfl rfl rfl (by rw [hF]; rfl) ?_
                                exact hS1808_2
                              · refine ⟨_, rfl, ?_⟩
                                refine TL_alloc 2529 z27 rfl rfl rfl rfl rfl rfl rfl ?_
                                refine TL_nil ?_
                                refine TZ_keepH [2, 3, 6, 7, 10, 13, 14, 15, 82, 83, 84, 85, 86, 87, 88, 89, 90, 91, 92, 93, 95, 96, 97] [11, 12, 413, 414, 415, 733, 901, 902, 903, 904, 1969, 1970, 1971, 2529] rfl rfl rfl rfl (by rw [hF]; rfl) ?_
                                exact hS1808_3
                            refine TZ_cut 8 [true, false, true, false, false, false, false, false, true, false, false] ⟨[(2, .ptr 11 0 0), (3, .ptr 12 0 0), (6, .ptr 733 0 0), (7, .bool j0.2.2.2), (10, .ptr 904 0 0), (13, .int .i64 r85.1), (14, .int .i64 r88), (15, .ptr 2529 0 0), (82, .bool ((!r75) || (!(r42.2 == j0.2.2.2)))), (83, .agg [.ow 901, .ow 902, .ow 903]), (84, .int .i64 (1 : Int)), (85, .int .i64 r85.1), (86, .agg [.ow 901, .ow 902, .ow 903]), (87, .int .i64 (1 : Int)), (88, .int .i64 r88), (89, .int .i64 r88), (90, .bool (decide (r88 < (0 : Int)))), (91, .int .i64 r88), (92, .int .i64 r85.1), (93, .bool (!decide (r88 = r85.1))), (95, .agg [.sl 2 (List.map a_Term p0.Pre), .sl 8 (List.map a_Stmt p0.Body), .sl 2 (List.map a_Term p0.Post)]), (97, .agg [.sl 2 (List.map a_Term p1.Pre), .sl 8 (List.map a_Stmt p1.Body), .sl 2 (List.map a_Term p1.Post)])], [(11, .box [.sl 2 (List.map a_Term p0.Pre), .sl 8 (List.map a_Stmt p0.Body), .sl 2 (List.map a_Term p0.Post)]), (12, .box [.sl 2 (List.map a_Term p1.Pre), .sl 8 (List.map a_Stmt p1.Body), .sl 2 (List.map a_Term p1.Post)]), (413, .arr ⟨false, true⟩ 2 75 (List.map a_Term j0.1)), (414, .arr ⟨false, true⟩ 8 77 (List.map a_Stmt j0.2.1)), (415, .arr ⟨false, true⟩ 2 75 (List.map a_Term j0.2.2.1)), (733, .box [.ow 413, .ow 414, .ow 415]), (901, .arr ⟨true, true⟩ 2 75 (List.map a_Term r85.2.1)), (902, .arr ⟨true, true⟩ 8 77 (List.map a_Stmt r85.2.2.1)), (903, .arr ⟨true, true⟩ 2 75 (List.map a_Term r85.2.2.2)), (904, .box [.ow 901, .ow 902, .ow 903]), (2529, .box [.snil, .snil, .snil])]⟩ ?_ (fun hS1808_5 => ?_)
                            · refine TZ_one 1 (by kernel_rfl) rfl ?_
                              refine TL_callO [(1000, 1969), (1001, 1970), (1002, 1971)] (c_laws_toProgram p0 r96 hr96) Try.call30 rfl rfl rfl rfl rfl rfl rfl rfl rfl rfl rfl rfl rfl ?_
                              refine TL_nil ?_
                              refine TZ_one 3 (by kernel_rfl) rfl ?_
                              refine TL_callO [(1000, 2129), (1001, 2130), (1002, 2131)] (c_laws_toProgram p1 r98 hr98) Try.call30 rfl rfl rfl rfl rfl rfl rfl rfl rfl rfl rfl rfl rfl ?_
                              refine TL_nil ?_
                              refine TZ_one 4 (by kernel_rfl) rfl ?_
                              refine TL_callO [(1000, 2209), (1001, 2210), (1002, 2211)] (c_impl_JoinPrograms r96 r98 r99 hr99) Try.call18 rfl rfl rfl rfl rfl rfl rfl rfl rfl rfl rfl rfl rfl ?_
                              refine TL_nil ?_
                              refine TZ_pure 5 (by kernel_rfl) rfl rfl rfl rfl rfl (op_move rfl) ?_
                              refine TZ_pure 6 (by kernel_rfl) rfl rfl rfl rfl rfl (op_extract rfl rfl) ?_
                              refine TZ_pure 7 (by kernel_rfl) rfl rfl rfl rfl rfl (op_extract rfl rfl) ?_
                              refine TZ_one 9 (by kernel_rfl) rfl ?_
                              refine TL_store_box sz27 rfl rfl rfl rfl rfl rfl rfl rfl rfl ?_
                              refine TL_nil ?_
                              refine TZ_pure 10 (by kernel_rfl) rfl rfl rfl rfl rfl (op_assign rfl) ?_
                              refine TZ_done (by kernel_rfl) ?_
                              refine T_keepH [6, 7, 10, 13, 15, 16] [413, 414, 415, 733, 901, 902, 903, 904, 2209, 2210, 2211, 2529] rfl rfl rfl rfl (by rw [hF]; rfl) ?_
                              refine T_ren [(413, 413), (414, 414), (415, 415), (733, 733), (901, 901), (902, 902), (903, 903), (904, 904), (2209, 1329), (2210, 1330), (2211, 1331), (2529, 1649)] rfl rfl rfl (by rw [hF]; rfl) ?_
                              exact hj1 (r99.1.Pre, r99.1.Body, r99.1.Post, r99.2) hm
                            refine TZ_each [1, 8] (by kernel_rfl) rfl ?_
                            refine ⟨?_, ?_⟩
                            · refine ⟨_, rfl, ?_⟩
                              refine TL_callO [(1000, 1969), (1001, 1970), (1002, 1971)] (c_laws_toProgram p0 r96 hr96) Try.call30 rfl rfl rfl rfl rfl rfl rfl rfl rfl rfl rfl rfl rfl ?_
                              refine TL_nil ?_
                              refine TZ_keepH [2, 3, 6, 7, 10, 13, 14, 82, 83, 84, 85, 86, 87, 88, 89, 90, 91, 92, 93, 95, 96, 97] [11, 12, 413, 414, 415, 733, 901, 902, 903, 904, 1969, 1970, 1971] rfl rfl rfl rfl (by rw [hF]; rfl) ?_
                              exact hS1808_4
                            · refine ⟨_, rfl, ?_⟩
                              refine TL_alloc 2529 z27 rfl rfl rfl rfl rfl rfl rfl ?_
                              refine TL_nil ?_
                              refine TZ_keepH [2, 3, 6, 7, 10, 13, 14, 15, 82, 83, 84, 85, 86, 87, 88, 89, 90, 91, 92, 93, 95, 97] [11, 12, 413, 414, 415, 733, 901, 902, 903, 904, 2529] rfl rfl rfl rfl (by rw [hF]; rfl) ?_
                              exact hS1808_5
                  · refine TL_split 78 rfl rfl rfl (fun hq => ?_) (fun hq => ?_)
                    · refine TL_pass rfl rfl rfl rfl rfl rfl rfl ?_
                      refine TL_pass rfl rfl rfl rfl rfl rfl rfl ?_
                      refine TL_pass rfl rfl rfl rfl rfl rfl rfl ?_
                      refine TL_pure rfl rfl rfl rfl (op_pick_true rfl rfl) ?_
                      refine TL_keepH [2, 3, 6, 7, 10, 82] [11, 12, 413, 414, 415, 733, 901, 902, 903, 904] rfl rfl rfl rfl (by rw [hF]; rfl) ?_
                      exact TL_cast _ (by first | (rw [hq, Bool.true_or]; done) | (rw [hq]; rfl)) (hjj () trivial)
                    · refine TL_want rfl rfl ?_
                      refine TL_pure rfl rfl rfl rfl (op_move rfl) ?_
                      refine TL_want rfl rfl ?_
                      refine TL_pure rfl rfl rfl rfl (op_move rfl) ?_
                      refine TL_want rfl rfl ?_
                      refine TL_pure rfl rfl rfl rfl (op_neqB Try.underlying4 rfl rfl) ?_
                      refine TL_pure rfl rfl rfl rfl (op_pick_false rfl rfl) ?_
                      refine TL_keepH [2, 3, 6, 7, 10, 82] [11, 12, 413, 414, 415, 733, 901, 902, 903, 904] rfl rfl rfl rfl (by rw [hF]; rfl) ?_
                      exact TL_cast _ (by first | (rw [hq, Bool.false_or]; done) | (rw [hq]; rfl)) (hjj () trivial)
        · refine TL_split 49 rfl rfl rfl (fun hq => ?_) (fun hq => ?_)
          · refine TL_pass rfl rfl rfl rfl rfl rfl rfl ?_
            refine TL_pass rfl rfl rfl rfl rfl rfl rfl ?_
            refine TL_pass rfl rfl rfl rfl rfl rfl rfl ?_
            refine TL_pure rfl rfl rfl rfl (op_pick_true rfl rfl) ?_
            refine TL_keepH [2, 3, 6, 7, 8, 9, 10, 11, 53] [11, 12, 413, 414, 415, 733, 893, 894, 895, 896, 897, 898, 899, 900, 901, 902, 903, 904] rfl rfl rfl rfl (by rw [hF]; rfl) ?_
            exact TL_cast _ (by first | (rw [hq, Bool.true_or]; done) | (rw [hq]; rfl)) (hjj () trivial)
          · refine TL_want rfl rfl ?_
            refine TL_pure rfl rfl rfl rfl (op_move rfl) ?_
            refine TL_want rfl rfl ?_
            refine TL_pure rfl rfl rfl rfl (op_move rfl) ?_
            refine TL_want rfl rfl ?_
            refine TL_pure rfl rfl rfl rfl (op_neqB Try.underlying4 rfl rfl) ?_
            refine TL_pure rfl rfl rfl rfl (op_pick_false rfl rfl) ?_
            refine TL_keepH [2, 3, 6, 7, 8, 9, 10, 11, 53] [11, 12, 413, 414, 415, 733, 893, 894, 895, 896, 897, 898, 899, 900, 901, 902, 903, 904] rfl rfl rfl rfl (by rw [hF]; rfl) ?_
            exact TL_cast _ (by first | (rw [hq, Bool.false_or]; done) | (rw [hq]; rfl)) (hjj () trivial)
      · refine T_drawZ [9] mix (by kernel_rfl) rfl ?_
        obtain ⟨r29, hr29, hm⟩ := bindS hm
        obtain ⟨r31, hr31, hm⟩ := bindS hm
        obtain ⟨r32, hr32, hm⟩ := bindS hm
        refine TZ_pure 0 (by kernel_rfl) rfl rfl rfl rfl rfl (op_load_agg ag54 sz54 rfl rfl rfl) ?_
        refine TZ_pure 2 (by kernel_rfl) rfl rfl rfl rfl rfl (op_load_agg ag54 sz54 rfl rfl rfl) ?_
        refine TZ_cut 6 [true, true, true, true, true, false, false, false, false, false, false] ⟨[(0, .agg [.sl 2 (List.map a_Term p0.Pre), .sl 8 (List.map a_Stmt p0.Body), .sl 2 (List.map a_Term p0.Post)]), (1, .agg [.sl 2 (List.map a_Term p1.Pre), .sl 8 (List.map a_Stmt p1.Body), .sl 2 (List.map a_Term p1.Post)]), (2, .ptr 11 0 0), (3, .ptr 12 0 0), (4, .bool false), (5, .int .i64 r24), (17, .agg [.sl 2 (List.map a_Term p0.Pre), .sl 8 (List.map a_Stmt p0.Body), .sl 2 (List.map a_Term p0.Post)]), (18, .int .i64 (1048576 : Int)), (19, .int .i64 r19), (20, .int .i64 r19), (21, .bool (decide (r19 < (0 : Int)))), (22, .agg [.sl 2 (List.map a_Term p1.Pre), .sl 8 (List.map a_Stmt p1.Body), .sl 2 (List.map a_Term p1.Post)]), (23, .int .i64 r19), (24, .int .i64 r24), (25, .int .i64 r24), (26, .bool (decide (r24 < (0 : Int)))), (28, .agg [.sl 2 (List.map a_Term p0.Pre), .sl 8 (List.map a_Stmt p0.Body), .sl 2 (List.map a_Term p0.Post)]), (29, .agg [.ow 2849, .ow 2850, .ow 2851]), (30, .agg [.sl 2 (List.map a_Term p1.Pre), .sl 8 (List.map a_Stmt p1.Body), .sl 2 (List.map a_Term p1.Post)]), (31, .agg [.ow 3009, .ow 3010, .ow 3011]), (32, .tup [.agg [.ow 3089, .ow 3090, .ow 3091], .bool r32.2])], [(11, .box [.sl 2 (List.map a_Term p0.Pre), .sl 8 (List.map a_Stmt p0.Body), .sl 2 (List.map a_Term p0.Post)]), (12, .box [.sl 2 (List.map a_Term p1.Pre), .sl 8 (List.map a_Stmt p1.Body), .sl 2 (List.map a_Term p1.Post)]), (2849, .arr ⟨false, true⟩ 2 75 (List.map a_Term r29.Pre)), (2850, .arr ⟨false, true⟩ 8 77 (List.map a_Stmt r29.Body)), (2851, .arr ⟨false, true⟩ 2 75 (List.map a_Term r29.Post)), (3009, .arr ⟨false, true⟩ 2 75 (List.map a_Term r31.Pre)), (3010, .arr ⟨false, true⟩ 8 77 (List.map a_Stmt r31.Body)), (3011, .arr ⟨false, true⟩ 2 75 (List.map a_Term r31.Post)), (3089, .arr ⟨false, true⟩ 2 75 (List.map a_Term r32.1.Pre)), (3090, .arr ⟨false, true⟩ 8 77 (List.map a_Stmt r32.1.Body)), (3091, .arr ⟨false, true⟩ 2 75 (List.map a_Term r32.1.Post))]⟩ ?_ (fun hS2688_0 => ?_)
        · refine TZ_pure 5 (by kernel_rfl) rfl rfl rfl rfl rfl (op_move rfl) ?_
          refine TZ_pure 6 (by kernel_rfl) rfl rfl rfl rfl rfl (op_extract rfl rfl) ?_
          refine TZ_pure 7 (by kernel_rfl) rfl rfl rfl rfl rfl (op_extract rfl rfl) ?_
          refine TZ_one 8 (by kernel_rfl) rfl ?_
          refine TL_alloc 3409 z27 rfl rfl rfl rfl rfl rfl rfl ?_
          refine TL_nil ?_
          refine TZ_one 9 (by kernel_rfl) rfl ?_
          refine TL_store_box sz27 rfl rfl rfl rfl rfl rfl rfl rfl rfl ?_
          refine TL_nil ?_
          refine TZ_pure 10 (by kernel_rfl) rfl rfl rfl rfl rfl (op_assign rfl) ?_
          refine TZ_done (by kernel_rfl) ?_
          refine T_keepH [2, 3, 6, 7] [11, 12, 3089, 3090, 3091, 3409] rfl rfl rfl rfl (by rw [hF]; rfl) ?_
          refine T_ren [(11, 11), (12, 12), (3089, 413), (3090, 414), (3091, 415), (3409, 733)] rfl rfl rfl (by rw [hF]; rfl) ?_
          exact hj0 (r32.1.Pre, r32.1.Body, r32.1.Post, r32.2) hm
        refine TZ_cut 6 [true, true, true, true, false, false, false, false, true, false, false] ⟨[(0, .agg [.sl 2 (List.map a_Term p0.Pre), .sl 8 (List.map a_Stmt p0.Body), .sl 2 (List.map a_Term p0.Post)]), (1, .agg [.sl 2 (List.map a_Term p1.Pre), .sl 8 (List.map a_Stmt p1.Body), .sl 2 (List.map a_Term p1.Post)]), (2, .ptr 11 0 0), (3, .ptr 12 0 0), (4, .bool false), (5, .int .i64 r24), (6, .ptr 3409 0 0), (17, .agg [.sl 2 (List.map a_Term p0.Pre), .sl 8 (List.map a_Stmt p0.Body), .sl 2 (List.map a_Term p0.Post)]), (18, .int .i64 (1048576 : Int)), (19, .int .i64 r19), (20, .int .i64 r19), (21, .bool (decide (r19 < (0 : Int)))), (22, .agg [.sl 2 (List.map a_Term p1.Pre), .sl 8 (List.map a_Stmt p1.Body), .sl 2 (List.map a_Term p1.Post)]), (23, .int .i64 r19), (24, .int .i64 r24), (25, .int .i64 r24), (26, .bool (decide (r24 < (0 : Int)))), (28, .agg [.sl 2 (List.map a_Term p0.Pre), .sl 8 (List.map a_Stmt p0.Body), .sl 2 (List.map a_Term p0.Post)]), (29, .agg [.ow 2849, .ow 2850, .ow 2851]), (30, .agg [.sl 2 (List.map a_Term p1.Pre), .sl 8 (List.map a_Stmt p1.Body), .sl 2 (List.map a_Term p1.Post)]), (31, .agg [.ow 3009, .ow 3010, .ow 3011])], [(11, .box [.sl 2 (List.map a_Term p0.Pre), .sl 8 (List.map a_Stmt p0.Body), .sl 2 (List.map a_Term p0.Post)]), (12, .box [.sl 2 (List.map a_Term p1.Pre), .sl 8 (List.map a_Stmt p1.Body), .sl 2 (List.map a_Term p1.Post)]), (2849, .arr ⟨false, true⟩ 2 75 (List.map a_Term r29.Pre)), (2850, .arr ⟨false, true⟩ 8 77 (List.map a_Stmt r29.Body)), (2851, .arr ⟨false, true⟩ 2 75 (List.map a_Term r29.Post)), (3009, .arr ⟨false, true⟩ 2 75 (List.map a_Term r31.Pre)), (3010, .arr ⟨false, true⟩ 8 77 (List.map a_Stmt r31.Body)), (3011, .arr ⟨false, true⟩ 2 75 (List.map a_Term r31.Post)), (3409, .box [.snil, .snil, .snil])]⟩ ?_ (fun hS2688_1 => ?_)
        · refine TZ_one 4 (by kernel_rfl) rfl ?_
          refine TL_callO [(1000, 3089), (1001, 3090), (1002, 3091)] (c_spec_JoinPrograms r29 r31 r32 hr32) Try.call29 rfl rfl rfl rfl rfl rfl rfl rfl rfl rfl rfl rfl rfl ?_
          refine TL_nil ?_
          refine TZ_pure 5 (by kernel_rfl) rfl rfl rfl rfl rfl (op_move rfl) ?_
          refine TZ_pure 6 (by kernel_rfl) rfl rfl rfl rfl rfl (op_extract rfl rfl) ?_
          refine TZ_pure 7 (by kernel_rfl) rfl rfl rfl rfl rfl (op_extract rfl rfl) ?_
          refine TZ_one 9 (by kernel_rfl) rfl ?_
          refine TL_store_box sz27 rfl rfl rfl rfl rfl rfl rfl rfl rfl ?_
          refine TL_nil ?_
          refine TZ_pure 10 (by kernel_rfl) rfl rfl rfl rfl rfl (op_assign rfl) ?_
          refine TZ_done (by kernel_rfl) ?_
          refine T_keepH [2, 3, 6, 7] [11, 12, 3089, 3090, 3091, 3409] rfl rfl rfl rfl (by rw [hF]; rfl) ?_
          refine T_ren [(11, 11), (12, 12), (3089, 413), (3090, 414), (3091, 415), (3409, 733)] rfl rfl rfl (by rw [hF]; rfl) ?_
          exact hj0 (r32.1.Pre, r32.1.Body, r32.1.Post, r32.2) hm
        refine TZ_cut 7 [true, true, true, true, false, false, false, false, false, false, false] ⟨[(0, .agg [.sl 2 (List.map a_Term p0.Pre), .sl 8 (List.map a_Stmt p0.Body), .sl 2 (List.map a_Term p0.Post)]), (1, .agg [.sl 2 (List.map a_Term p1.Pre), .sl 8 (List.map a_Stmt p1.Body), .sl 2 (List.map a_Term p1.Post)]), (2, .ptr 11 0 0), (3, .ptr 12 0 0), (4, .bool false), (5, .int .i64 r24), (17, .agg [.sl 2 (List.map a_Term p0.Pre), .sl 8 (List.map a_Stmt p0.Body), .sl 2 (List.map a_Term p0.Post)]), (18, .int .i64 (1048576 : Int)), (19, .int .i64 r19), (20, .int .i64 r19), (21, .bool (decide (r19 < (0 : Int)))), (22, .agg [.sl 2 (List.map a_Term p1.Pre), .sl 8 (List.map a_Stmt p1.Body), .sl 2 (List.map a_Term p1.Post)]), (23, .int .i64 r19), (24, .int .i64 r24), (25, .int .i64 r24), (26, .bool (decide (r24 < (0 : Int)))), (28, .agg [.sl 2 (List.map a_Term p0.Pre), .sl 8 (List.map a_Stmt p0.Body), .sl 2 (List.map a_Term p0.Post)]), (29, .agg [.ow 2849, .ow 2850, .ow 2851]), (30, .agg [.sl 2 (List.map a_Term p1.Pre), .sl 8 (List.map a_Stmt p1.Body), .sl 2 (List.map a_Term p1.Post)]), (31, .agg [.ow 3009, .ow 3010, .ow 3011])], [(11, .box [.sl 2 (List.map a_Term p0.Pre), .sl 8 (List.map a_Stmt p0.Body), .sl 2 (List.map a_Term p0.Post)]), (12, .box [.sl 2 (List.map a_Term p1.Pre), .sl 8 (List.map a_Stmt p1.Body), .sl 2 (List.map a_Term p1.Post)]), (2849, .arr ⟨false, true⟩ 2 75 (List.map a_Term r29.Pre)), (2850, .arr ⟨false, true⟩ 8 77 (List.map a_Stmt r29.Body)), (2851, .arr ⟨false, true⟩ 2 75 (List.map a_Term r29.Post)), (3009, .arr ⟨false, true⟩ 2 75 (List.map a_Term r31.Pre)), (3010, .arr ⟨false, true⟩ 8 77 (List.map a_Stmt r31.Body)), (3011, .arr ⟨false, true⟩ 2 75 (List.map a_Term r31.Post))]⟩ ?_ (fun hS2688_2 => ?_)
        · refine TZ_each [4, 8] (by kernel_rfl) rfl ?_
          refine ⟨?_, ?_⟩
          · refine ⟨_, rfl, ?_⟩
            refine TL_callO [(1000, 3089), (1001, 3090), (1002, 3091)] (c_spec_JoinPrograms r29 r31 r32 hr32) Try.call29 rfl rfl rfl rfl rfl rfl rfl rfl rfl rfl rfl rfl rfl ?_
            refine TL_nil ?_
            refine TZ_keepH [0, 1, 2, 3, 4, 5, 17, 18, 19, 20, 21, 22, 23, 24, 25, 26, 28, 29, 30, 31, 32] [11, 12, 2849, 2850, 2851, 3009, 3010, 3011, 3089, 3090, 3091] rfl rfl rfl rfl (by rw [hF]; rfl) ?_
            exact hS2688_0
          · refine ⟨_, rfl, ?_⟩
            refine TL_alloc 3409 z27 rfl rfl rfl rfl rfl rfl rfl ?_
            refine TL_nil ?_
            refine TZ_keepH [0, 1, 2, 3, 4, 5, 6, 17, 18, 19, 20, 21, 22, 23, 24, 25, 26, 28, 29, 30, 31] [11, 12, 2849, 2850, 2851, 3009, 3010, 3011, 3409] rfl rfl rfl rfl (by rw [hF]; rfl) ?_
            exact hS2688_1
        refine TZ_cut 7 [true, true, true, false, false, false, false, false, true, false, false] ⟨[(0, .agg [.sl 2 (List.map a_Term p0.Pre), .sl 8 (List.map a_Stmt p0.Body), .sl 2 (List.map a_Term p0.Post)]), (1, .agg [.sl 2 (List.map a_Term p1.Pre), .sl 8 (List.map a_Stmt p1.Body), .sl 2 (List.map a_Term p1.Post)]), (2, .ptr 11 0 0), (3, .ptr 12 0 0), (4, .bool false), (5, .int .i64 r24), (6, .ptr 3409 0 0), (17, .agg [.sl 2 (List.map a_Term p0.Pre), .sl 8 (List.map a_Stmt p0.Body), .sl 2 (List.map a_Term p0.Post)]), (18, .int .i64 (1048576 : Int)), (19, .int .i64 r19), (20, .int .i64 r19), (21, .bool (decide (r19 < (0 : Int)))), (22, .agg [.sl 2 (List.map a_Term p1.Pre), .sl 8 (List.map a_Stmt p1.Body), .sl 2 (List.map a_Term p1.Post)]), (23, .int .i64 r19), (24, .int .i64 r24), (25, .int .i64 r24), (26, .bool (decide (r24 < (0 : Int)))), (28, .agg [.sl 2 (List.map a_Term p0.Pre), .sl 8 (List.map a_Stmt p0.Body), .sl 2 (List.map a_Term p0.Post)]), (29, .agg [.ow 2849, .ow 2850, .ow 2851]), (30, .agg [.sl 2 (List.map a_Term p1.Pre), .sl 8 (List.map a_Stmt p1.Body), .sl 2 (List.map a_Term p1.Post)])], [(11, .box [.sl 2 (List.map a_Term p0.Pre), .sl 8 (List.map a_Stmt p0.Body), .sl 2 (List.map a_Term p0.Post)]), (12, .box [.sl 2 (List.map a_Term p1.Pre), .sl 8 (List.map a_Stmt p1.Body), .sl 2 (List.map a_Term p1.Post)]), (2849, .arr ⟨false, true⟩ 2 75 (List.map a_Term r29.Pre)), (2850, .arr ⟨false, true⟩ 8 77 (List.map a_Stmt r29.Body)), (2851, .arr ⟨false, true⟩ 2 75 (List.map a_Term r29.Post)), (3409, .box [.snil, .snil, .snil])]⟩ ?_ (fun hS2688_3 => ?_)
        · refine TZ_one 3 (by kernel_rfl) rfl ?_
          refine TL_callO [(1000, 3009), (1001, 3010), (1002, 3011)] (c_laws_toProgram p1 r31 hr31) Try.call30 rfl rfl rfl rfl rfl rfl rfl rfl rfl rfl rfl rfl rfl ?_
          refine TL_nil ?_
          refine TZ_one 4 (by kernel_rfl) rfl ?_
          refine TL_callO [(1000, 3089), (1001, 3090), (1002, 3091)] (c_spec_JoinPrograms r29 r31 r32 hr32) Try.call29 rfl rfl rfl rfl rfl rfl rfl rfl rfl rfl rfl rfl rfl ?_
          refine TL_nil ?_
          refine TZ_pure 5 (by kernel_rfl) rfl rfl rfl rfl rfl (op_move rfl) ?_
          refine TZ_pure 6 (by kernel_rfl) rfl rfl rfl rfl rfl (op_extract rfl rfl) ?_
          refine TZ_pure 7 (by kernel_rfl) rfl rfl rfl rfl rfl (op_extract rfl rfl) ?_
          refine TZ_one 9 (by kernel_rfl) rfl ?_
          refine TL_store_box sz27 rfl rfl rfl rfl rfl rfl rfl rfl rfl ?_
          refine TL_nil ?_
          refine TZ_pure 10 (by kernel_rfl) rfl rfl rfl rfl rfl (op_assign rfl) ?_
          refine TZ_done (by kernel_rfl) ?_
          refine T_keepH [2, 3, 6, 7] [11, 12, 3089, 3090, 3091, 3409] rfl rfl rfl rfl (by rw [hF]; rfl) ?_
          refine T_ren [(11, 11), (12, 12), (3089, 413), (3090, 414), (3091, 415), (3409, 733)] rfl rfl rfl (by rw [hF]; rfl) ?_
          exact hj0 (r32.1.Pre, r32.1.Body, r32.1.Post, r32.2) hm
        refine TZ_cut 8 [true, true, true, false, false, false, false, false, false, false, false] ⟨[(0, .agg [.sl 2 (List.map a_Term p0.Pre), .sl 8 (List.map a_Stmt p0.Body), .sl 2 (List.map a_Term p0.Post)]), (1, .agg [.sl 2 (List.map a_Term p1.Pre), .sl 8 (List.map a_Stmt p1.Body), .sl 2 (List.map a_Term p1.Post)]), (2, .ptr 11 0 0), (3, .ptr 12 0 0), (4, .bool false), (5, .int .i64 r24), (17, .agg [.sl 2 (List.map a_Term p0.Pre), .sl 8 (List.map a_Stmt p0.Body), .sl 2 (List.map a_Term p0.Post)]), (18, .int .i64 (1048576 : Int)), (19, .int .i64 r19), (20, .int .i64 r19), (21, .bool (decide (r19 < (0 : Int)))), (22, .agg [.sl 2 (List.map a_Term p1.Pre), .sl 8 (List.map a_Stmt p1.Body), .sl 2 (List.map a_Term p1.Post)]), (23, .int .i64 r19), (24, .int .i64 r24), (25, .int .i64 r24), (26, .bool (decide (r24 < (0 : Int)))), (28, .agg [.sl 2 (List.map a_Term p0.Pre), .sl 8 (List.map a_Stmt p0.Body), .sl 2 (List.map a_Term p0.Post)]), (29, .agg [.ow 2849, .ow 2850, .ow 2851]), (30, .agg [.sl 2 (List.map a_Term p1.Pre), .sl 8 (List.map a_Stmt p1.Body), .sl 2 (List.map a_Term p1.Post)])], [(11, .box [.sl 2 (List.map a_Term p0.Pre), .sl 8 (List.map a_Stmt p0.Body), .sl 2 (List.map a_Term p0.Post)]), (12, .box [.sl 2 (List.map a_Term p1.Pre), .sl 8 (List.map a_Stmt p1.Body), .sl 2 (List.map a_Term p1.Post)]), (2849, .arr ⟨false, true⟩ 2 75 (List.map a_Term r29.Pre)), (2850, .arr ⟨false, true⟩ 8 77 (List.map a_Stmt r29.Body)), (2851, .arr ⟨false, true⟩ 2 75 (List.map a_Term r29.Post))]⟩ ?_ (fun hS2688_4 => ?_)
        · refine TZ_each [3, 8] (by kernel_rfl) rfl ?_
          refine ⟨?_, ?_⟩
          · refine ⟨_, rfl, ?_⟩
            refine TL_callO [(1000, 3009), (1001, 3010), (1002, 3011)] (c_laws_toProgram p1 r31 hr31) Try.call30 rfl rfl rfl rfl rfl rfl rfl rfl rfl rfl rfl rfl rfl ?_
            refine TL_nil ?_
            refine TZ_keepH [0, 1, 2, 3, 4, 5, 17, 18, 19, 20, 21, 22, 23, 24, 25, 26, 28, 29, 30, 31] [11, 12, 2849, 2850, 2851, 3009, 3010, 3011] rfl rfl rfl rfl (by rw [hF]; rfl) ?_
            exact hS2688_2
          · refine ⟨_, rfl, ?_⟩
            refine TL_alloc 3409 z27 rfl rfl rfl rfl rfl rfl rfl ?_
            refine TL_nil ?_
            refine TZ_keepH [0, 1, 2, 3, 4, 5, 6, 17, 18, 19, 20, 21, 22, 23, 24, 25, 26, 28, 29, 30] [11, 12, 2849, 2850, 2851, 3409] rfl rfl rfl rfl (by rw [hF]; rfl) ?_
            exact hS2688_3
        refine TZ_cut 8 [true, false, true, false, false, false, false, false, true, false, false] ⟨[(0, .agg [.sl 2 (List.map a_Term p0.Pre), .sl 8 (List.map a_Stmt p0.Body), .sl 2 (List.map a_Term p0.Post)]), (1, .agg [.sl 2 (List.map a_Term p1.Pre), .sl 8 (List.map a_Stmt p1.Body), .sl 2 (List.map a_Term p1.Post)]), (2, .ptr 11 0 0), (3, .ptr 12 0 0), (4, .bool false), (5, .int .i64 r24), (6, .ptr 3409 0 0), (17, .agg [.sl 2 (List.map a_Term p0.Pre), .sl 8 (List.map a_Stmt p0.Body), .sl 2 (List.map a_Term p0.Post)]), (18, .int .i64 (1048576 : Int)), (19, .int .i64 r19), (20, .int .i64 r19), (21, .bool (decide (r19 < (0 : Int)))), (22, .agg [.sl 2 (List.map a_Term p1.Pre), .sl 8 (List.map a_Stmt p1.Body), .sl 2 (List.map a_Term p1.Post)]), (23, .int .i64 r19), (24, .int .i64 r24), (25, .int .i64 r24), (26, .bool (decide (r24 < (0 : Int)))), (28, .agg [.sl 2 (List.map a_Term p0.Pre), .sl 8 (List.map a_Stmt p0.Body), .sl 2 (List.map a_Term p0.Post)]), (30, .agg [.sl 2 (List.map a_Term p1.Pre), .sl 8 (List.map a_Stmt p1.Body), .sl 2 (List.map a_Term p1.Post)])], [(11, .box [.sl 2 (List.map a_Term p0.Pre), .sl 8 (List.map a_Stmt p0.Body), .sl 2 (List.map a_Term p0.Post)]), (12, .box [.sl 2 (List.map a_Term p1.Pre), .sl 8 (List.map a_Stmt p1.Body), .sl 2 (List.map a_Term p1.Post)]), (3409, .box [.snil, .snil, .snil])]⟩ ?_ (fun hS2688_5 => ?_)
        · refine TZ_one 1 (by kernel_rfl) rfl ?_
          refine TL_callO [(1000, 2849), (1001, 2850), (1002, 2851)] (c_laws_toProgram p0 r29 hr29) Try.call30 rfl rfl rfl rfl rfl rfl rfl rfl rfl rfl rfl rfl rfl ?_
          refine TL_nil ?_
          refine TZ_one 3 (by kernel_rfl) rfl ?_
          refine TL_callO [(1000, 3009), (1001, 3010), (1002, 3011)] (c_laws_toProgram p1 r31 hr31) Try.call30 rfl rfl rfl rfl rfl rfl rfl rfl rfl rfl rfl rfl rfl ?_
          refine TL_nil ?_
          refine TZ_one 4 (by kernel_rfl) rfl ?_
          refine TL_callO [(1000, 3089), (1001, 3090), (1002, 3091)] (c_spec_JoinPrograms r29 r31 r32 hr32) Try.call29 rfl rfl rfl rfl rfl rfl rfl rfl rfl rfl rfl rfl rfl ?_
          refine TL_nil ?_
          refine TZ_pure 5 (by kernel_rfl) rfl rfl rfl rfl rfl (op_move rfl) ?_
          refine TZ_pure 6 (by kernel_rfl) rfl rfl rfl rfl rfl (op_extract rfl rfl) ?_
          refine TZ_pure 7 (by kernel_rfl) rfl rfl rfl rfl rfl (op_extract rfl rfl) ?_
          refine TZ_one 9 (by kernel_rfl) rfl ?_
          refine TL_store_box sz27 rfl rfl rfl rfl rfl rfl rfl rfl rfl ?_
          refine TL_nil ?_
          refine TZ_pure 10 (by kernel_rfl) rfl rfl rfl rfl rfl (op_assign rfl) ?_
          refine TZ_done (by kernel_rfl) ?_
          refine T_keepH [2, 3, 6, 7] [11, 12, 3089, 3090, 3091, 3409] rfl rfl rfl rfl (by rw [hF]; rfl) ?_
          refine T_ren [(11, 11), (12, 12), (3089, 413), (3090, 414), (3091, 415), (3409, 733)] rfl rfl rfl (by rw [hF]; rfl) ?_
          exact hj0 (r32.1.Pre, r32.1.Body, r32.1.Post, r32.2) hm
        refine TZ_each [1, 8] (by kernel_rfl) rfl ?_
        refine ⟨?_, ?_⟩
        · refine ⟨_, rfl, ?_⟩
          refine TL_callO [(1000, 2849), (1001, 2850), (1002, 2851)] (c_laws_toProgram p0 r29 hr29) Try.call30 rfl rfl rfl rfl rfl rfl rfl rfl rfl rfl rfl rfl rfl ?_
          refine TL_nil ?_
          refine TZ_keepH [0, 1, 2, 3, 4, 5, 17, 18, 19, 20, 21, 22, 23, 24, 25, 26, 28, 29, 30] [11, 12, 2849, 2850, 2851] rfl rfl rfl rfl (by rw [hF]; rfl) ?_
          exact hS2688_4
        · refine ⟨_, rfl, ?_⟩
          refine TL_alloc 3409 z27 rfl rfl rfl rfl rfl rfl rfl ?_
          refine TL_nil ?_
          refine TZ_keepH [0, 1, 2, 3, 4, 5, 6, 17, 18, 19, 20, 21, 22, 23, 24, 25, 26, 28, 30] [11, 12, 3409] rfl rfl rfl rfl (by rw [hF]; rfl) ?_
          exact hS2688_5
end Go.Mod
