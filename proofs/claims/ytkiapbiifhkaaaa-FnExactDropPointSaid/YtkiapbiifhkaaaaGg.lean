import Derived.Test.YtkiapbiifhkaaaaGf
namespace Go.Mod
open Go Go.AM Go.Proofs
set_option linter.unusedVariables false
set_option linter.unusedSimpArgs false
set_option maxRecDepth 100000
set_option maxHeartbeats 8000000
theorem c_spec_DropPoint (p0 : Annotated) (p1 : Int) (out : Annotated × Bool) (hm : m_spec_DropPoint p0 p1 = some out) : ACall Try.prog 56 [.agg [.sl 2 (List.map a_Term p0.Pre), .sl 2 (List.map a_Term p0.Post), .sl 2 (List.map a_Instr p0.Code), .sl 2 (List.map a_Point p0.Points)], .int .i64 p1] [] (.tup [.agg [.sl 2 (List.map a_Term out.1.Pre), .sl 2 (List.map a_Term out.1.Post), .sl 2 (List.map a_Instr out.1.Code), .sl 2 (List.map a_Point out.1.Points)], .bool out.2]) [] := by
  refine ACall.intro Try.func56 rfl Try.ntmps56 rfl (fun F hF => ?_)
  unfold m_spec_DropPoint at hm
  refine T_seq ?_
  refine T_region ?_
  refine TL_box 11 rfl rfl rfl rfl rfl rfl rfl ?_
  refine TL_alloc 12 z69 rfl rfl rfl rfl rfl rfl rfl ?_
  refine TL_pure rfl rfl rfl rfl (op_assign rfl) ?_
  refine TL_nil ?_
  refine T_seq ?_
  refine T_seq ?_
  refine T_region ?_
  obtain ⟨r8, hr8, hm⟩ := bindS hm
  refine TL_callF (ACall.F (F := F) (c_spec_l08Is p0 r8 hr8)) Try.call85 rfl rfl rfl rfl rfl ?_
  refine TL_pure rfl rfl rfl rfl (op_not rfl) ?_
  refine TL_pure rfl rfl rfl rfl (op_move rfl) ?_
  refine TL_split 10 rfl rfl rfl (fun hq => ?_) (fun hq => ?_)
  · replace hm := condT hq hm
    refine TL_pass rfl rfl rfl rfl rfl rfl rfl ?_
    refine TL_pass rfl rfl rfl rfl rfl rfl rfl ?_
    refine TL_pass rfl rfl rfl rfl rfl rfl rfl ?_
    refine TL_pass rfl rfl rfl rfl rfl rfl rfl ?_
    refine TL_pass rfl rfl rfl rfl rfl rfl rfl ?_
    refine TL_pass rfl rfl rfl rfl rfl rfl rfl ?_
    refine TL_pass rfl rfl rfl rfl rfl rfl rfl ?_
    refine TL_pure rfl rfl rfl rfl (op_pick_true rfl rfl) ?_
    refine TL_nil ?_
    refine T_cond_true rfl ?_
    refine T_seq ?_
    refine T_region ?_
    refine TL_pure rfl rfl rfl rfl (op_buildP pl69 z69 rfl rfl rfl rfl rfl) ?_
    refine TL_store_box sz69 rfl rfl rfl rfl rfl rfl rfl rfl rfl ?_
    refine TL_pure rfl rfl rfl rfl (op_assign rfl) ?_
    refine TL_nil ?_
    refine T_keepH [4, 5] [12] rfl rfl rfl rfl (by rw [hF]; rfl) ?_
    refine T_nilBox 12 (cs' := [.sl 2 (List.map a_Term ([] : List Term)), .sl 2 (List.map a_Term ([] : List Term)), .sl 2 (List.map a_Instr ([] : List Instr)), .sl 2 (List.map a_Point ([] : List Point))]) rfl (⟨_, _, rfl, .inr ⟨_, rfl⟩, ⟨_, _, rfl, .inr ⟨_, rfl⟩, ⟨_, _, rfl, .inr ⟨_, rfl⟩, ⟨_, _, rfl, .inr ⟨_, rfl⟩, rfl⟩⟩⟩⟩) rfl ?_
    refine T_ret ?_
    obtain rfl := someI hm
    refine ⟨[_, _], [], ⟨⟨_, _, rfl, rfl, .inr ⟨ag69, _, _, sz69, rfl, rfl⟩⟩, rfl, trivial⟩, ?_, rfl, rfl, rfl, rfl⟩
    rfl
  · replace hm := condF hq hm
    refine TL_want rfl rfl ?_
    refine TL_pure rfl rfl rfl rfl (op_move rfl) ?_
    refine TL_want rfl rfl ?_
    refine TL_pure rfl rfl rfl rfl (op_fieldAddr fa69_3 rfl rfl) ?_
    refine TL_want rfl rfl ?_
    refine TL_pure rfl rfl rfl rfl (op_load_one ag67 rfl rfl) ?_
    refine TL_want rfl rfl ?_
    refine TL_pure rfl rfl rfl rfl (op_lenT Try.underlying67 rfl (List.length_map _)) ?_
    refine TL_fact (fun _ _ _ hr => RelP.slLen (i := 13) rfl hr) (fun hlen14 => ?_)
    rw [List.length_map] at hlen14
    refine TL_want rfl rfl ?_
    refine TL_pure rfl rfl rfl rfl (op_subW rfl rfl) ?_
    refine TL_want rfl rfl ?_
    obtain ⟨r16, hr16, hm⟩ := bindS hm
    refine TL_callF (ACall.F (F := F) (c_spec_l00In p1 (0 : Int) (w64 ((p0.Points.length : Int) - (1 : Int))) r16 hr16)) Try.call108 rfl rfl rfl rfl rfl ?_
    refine TL_want rfl rfl ?_
    refine TL_pure rfl rfl rfl rfl (op_not rfl) ?_
    refine TL_pure rfl rfl rfl rfl (op_pick_false rfl rfl) ?_
    refine TL_nil ?_
    refine T_cond rfl (fun hq => ?_) (fun hq => ?_)
    · replace hm := condT hq hm
      refine T_seq ?_
      refine T_region ?_
      refine TL_pure rfl rfl rfl rfl (op_buildP pl69 z69 rfl rfl rfl rfl rfl) ?_
      refine TL_store_box sz69 rfl rfl rfl rfl rfl rfl rfl rfl rfl ?_
      refine TL_pure rfl rfl rfl rfl (op_assign rfl) ?_
      refine TL_nil ?_
      refine T_keepH [4, 5] [12] rfl rfl rfl rfl (by rw [hF]; rfl) ?_
      refine T_nilBox 12 (cs' := [.sl 2 (List.map a_Term ([] : List Term)), .sl 2 (List.map a_Term ([] : List Term)), .sl 2 (List.map a_Instr ([] : List Instr)), .sl 2 (List.map a_Point ([] : List Point))]) rfl (⟨_, _, rfl, .inr ⟨_, rfl⟩, ⟨_, _, rfl, .inr ⟨_, rfl⟩, ⟨_, _, rfl, .inr ⟨_, rfl⟩, ⟨_, _, rfl, .inr ⟨_, rfl⟩, rfl⟩⟩⟩⟩) rfl ?_
      refine T_ret ?_
      obtain rfl := someI hm
      refine ⟨[_, _], [], ⟨⟨_, _, rfl, rfl, .inr ⟨ag69, _, _, sz69, rfl, rfl⟩⟩, rfl, trivial⟩, ?_, rfl, rfl, rfl, rfl⟩
      rfl
    · replace hm := condF hq hm
      refine T_skip ?_
      refine T_seq ?_
      refine T_region ?_
      obtain ⟨r20, hr20, hm⟩ := bindS hm
      refine TL_callO [(1000, 13), (1001, 14), (1002, 15), (1003, 16)] (ACall.F (F := F) (c_spec_l08Own p0 r20 hr20)) Try.call103 rfl rfl rfl rfl rfl rfl rfl rfl rfl rfl rfl rfl rfl ?_
      refine TL_shallow 16 (by rw [hF]; rfl) rfl rfl rfl rfl ?_
      refine TL_alloc 17 z69 rfl rfl rfl rfl rfl rfl rfl ?_
      refine TL_store_box sz69 rfl rfl rfl rfl rfl rfl rfl rfl rfl ?_
      refine TL_nil ?_
      refine T_seq ?_
      refine T_region ?_
      refine TL_buildSlice 18 (es := List.map a_Point ([] : List Point)) el67 z81 rfl rfl rfl rfl rfl rfl rfl rfl rfl ?_
      refine TL_pure rfl rfl rfl rfl (op_fieldAddr fa69_3 rfl rfl) ?_
      refine TL_pure rfl rfl rfl rfl (op_load_one ag67 rfl rfl) ?_
      refine TL_pure rfl rfl rfl rfl (op_move rfl) ?_
      refine TL_freeze 16 (by rw [hF]; rfl) rfl rfl rfl ?_
      obtain ⟨y25, hy25, hm⟩ := bindS hm
      refine TL_pure rfl rfl rfl rfl (op_sliceI el67 rfl ⟨rfl, ⟨_, rfl⟩⟩ hy25) ?_
      obtain ⟨q26, hq26, hm⟩ := bindS hm
      refine TL_appendT (f := a_Point) (a := ([] : List Point)) (b := y25) el67 z81 rfl rfl rfl rfl rfl rfl rfl (capI_spec hq26) rfl rfl rfl rfl rfl ?_
      refine TL_pure rfl rfl rfl rfl (op_assign rfl) ?_
      refine TL_nil ?_
      refine T_seq ?_
      refine T_region ?_
      refine TL_pure rfl rfl rfl rfl (op_move rfl) ?_
      refine TL_pure rfl rfl rfl rfl (op_fieldAddr fa69_3 rfl rfl) ?_
      refine TL_pure rfl rfl rfl rfl (op_load_one ag67 rfl rfl) ?_
      refine TL_pure rfl rfl rfl rfl (op_move rfl) ?_
      refine TL_pure rfl rfl rfl rfl (op_addW rfl rfl) ?_
      obtain ⟨y32, hy32, hm⟩ := bindS hm
      refine TL_pure rfl rfl rfl rfl (op_sliceI el67 rfl ⟨⟨_, rfl⟩, rfl⟩ hy32) ?_
      obtain ⟨q33, hq33, hm⟩ := bindS hm
      refine TL_appendT (f := a_Point) (a := (([] : List Point) ++ y25)) (b := y32) el67 z81 rfl rfl rfl rfl rfl rfl rfl (capI_spec hq33) rfl rfl rfl rfl rfl ?_
      refine TL_pure rfl rfl rfl rfl (op_fieldAddr fa69_3 rfl rfl) ?_
      refine TL_store_box sz67 rfl rfl rfl rfl rfl rfl rfl rfl rfl ?_
      refine TL_nil ?_
      refine T_seq ?_
      refine T_region ?_
      refine TL_pure rfl rfl rfl rfl (op_load_agg ag69 sz69 rfl rfl rfl) ?_
      refine TL_store_box sz69 rfl rfl rfl rfl rfl rfl rfl rfl rfl ?_
      refine TL_pure rfl rfl rfl rfl (op_assign rfl) ?_
      refine TL_nil ?_
      refine T_keepH [4, 5] [12, 13, 14, 15, 18] rfl rfl rfl rfl (by rw [hF]; rfl) ?_
      refine T_freeze 13 (by rw [hF]; rfl) rfl rfl rfl ?_
      refine T_freeze 14 (by rw [hF]; rfl) rfl rfl rfl ?_
      refine T_freeze 15 (by rw [hF]; rfl) rfl rfl rfl ?_
      refine T_freeze 18 (by rw [hF]; rfl) rfl rfl rfl ?_
      refine T_ret ?_
      obtain rfl := someI hm
      refine ⟨[_, _], [], ⟨⟨_, _, rfl, rfl, .inr ⟨ag69, _, _, sz69, rfl, rfl⟩⟩, rfl, trivial⟩, ?_, rfl, rfl, rfl, rfl⟩
      rfl
theorem c_impl_size (p0 : Int) (out : Int) (hm : m_impl_size p0 = some out) : ACall Try.prog 129 [.int .i64 p0] [] (.int .i64 out) [] := by
  refine ACall.intro Try.func129 rfl Try.ntmps129 rfl (fun F hF => ?_)
  unfold m_impl_size at hm
  refine T_seq ?_
  refine T_region ?_
  refine TL_pure rfl rfl rfl rfl (op_assign rfl) ?_
  refine TL_nil ?_
  refine T_seq ?_
  refine T_region ?_
  refine TL_pure rfl rfl rfl rfl (op_move rfl) ?_
  refine TL_pure rfl rfl rfl rfl (op_assign rfl) ?_
  refine TL_nil ?_
  refine T_keepH [2] [] rfl rfl rfl rfl (by rw [hF]; rfl) ?_
  refine T_ret ?_
  obtain rfl := someI hm
  refine ⟨[_], [], ⟨rfl, trivial⟩, ?_, rfl, rfl, rfl, rfl⟩
  rfl
theorem c_impl_within (p0 : Int) (p1 : Int) (p2 : Int) (out : Bool) (hm : m_impl_within p0 p1 p2 = some out) : ACall Try.prog 72 [.int .i64 p0, .int .i64 p1, .int .i64 p2] [] (.bool out) [] := by
  refine ACall.intro Try.func72 rfl Try.ntmps72 rfl (fun F hF => ?_)
  unfold m_impl_within at hm
  refine T_seq ?_
  refine T_region ?_
  refine TL_pure rfl rfl rfl rfl (op_assign rfl) ?_
  refine TL_nil ?_
  refine T_seq ?_
  refine T_region ?_
  refine TL_pure rfl rfl rfl rfl (op_move rfl) ?_
  refine TL_pure rfl rfl rfl rfl (op_move rfl) ?_
  refine TL_pure rfl rfl rfl rfl (op_leq rfl rfl) ?_
  refine TL_pure rfl rfl rfl rfl (op_move rfl) ?_
  refine TL_join 4 (fun _ : Unit => ⟨[(14, .bool ((decide (p1 ≤ p0)) && (decide (p0 ≤ p2))))], []⟩) (fun _ => True) (fun _ _ => ?_) (fun hjj => ?_)
  · refine TL_pure rfl rfl rfl rfl (op_assign rfl) ?_
    refine TL_nil ?_
    refine T_keepH [6] [] rfl rfl rfl rfl (by rw [hF]; rfl) ?_
    refine T_ret ?_
    obtain rfl := someI hm
    refine ⟨[_], [], ⟨rfl, trivial⟩, ?_, rfl, rfl, rfl, rfl⟩
    rfl
  · refine TL_split 10 rfl rfl rfl (fun hq => ?_) (fun hq => ?_)
    · refine TL_want rfl rfl ?_
      refine TL_pure rfl rfl rfl rfl (op_move rfl) ?_
      refine TL_want rfl rfl ?_
      refine TL_pure rfl rfl rfl rfl (op_move rfl) ?_
      refine TL_want rfl rfl ?_
      refine TL_pure rfl rfl rfl rfl (op_leq rfl rfl) ?_
      refine TL_pure rfl rfl rfl rfl (op_pick_true rfl rfl) ?_
      refine TL_keepH [14] [] rfl rfl rfl rfl (by rw [hF]; rfl) ?_
      exact TL_cast _ (by first | (rw [hq, Bool.true_and]; done) | (rw [hq]; rfl)) (hjj () trivial)
    · refine TL_pass rfl rfl rfl rfl rfl rfl rfl ?_
      refine TL_pass rfl rfl rfl rfl rfl rfl rfl ?_
      refine TL_pass rfl rfl rfl rfl rfl rfl rfl ?_
      refine TL_pure rfl rfl rfl rfl (op_pick_false rfl rfl) ?_
      refine TL_keepH [14] [] rfl rfl rfl rfl (by rw [hF]; rfl) ?_
      exact TL_cast _ (by first | (rw [hq, Bool.false_and]; done) | (rw [hq]; rfl)) (hjj () trivial)
theorem c_impl_isCoeff (p0 : Int) (out : Bool) (hm : m_impl_isCoeff p0 = some out) : ACall Try.prog 171 [.int .i64 p0] [] (.bool out) [] := by
  refine ACall.intro Try.func171 rfl Try.ntmps171 rfl (fun F hF => ?_)
  unfold m_impl_isCoeff at hm
  refine T_seq ?_
  refine T_region ?_
  refine TL_pure rfl rfl rfl rfl (op_assign rfl) ?_
  refine TL_nil ?_
  refine T_seq ?_
  refine T_region ?_
  refine TL_pure rfl rfl rfl rfl (op_move rfl) ?_
  obtain ⟨r4, hr4, hm⟩ := bindS hm
  refine TL_callF (ACall.F (F := F) (c_impl_within p0 (-1000000 : Int) (1000000 : Int) r4 hr4)) Try.call72 rfl rfl rfl rfl rfl ?_
  refine TL_pure rfl rfl rfl rfl (op_assign rfl) ?_
  refine TL_nil ?_
  refine T_keepH [2] [] rfl rfl rfl rfl (by rw [hF]; rfl) ?_
  refine T_ret ?_
  obtain rfl := someI hm
  refine ⟨[_], [], ⟨rfl, trivial⟩, ?_, rfl, rfl, rfl, rfl⟩
  rfl
theorem c_impl_isVar (p0 : Int) (out : Bool) (hm : m_impl_isVar p0 = some out) : ACall Try.prog 172 [.int .i64 p0] [] (.bool out) [] := by
  refine ACall.intro Try.func172 rfl Try.ntmps172 rfl (fun F hF => ?_)
  unfold m_impl_isVar at hm
  refine T_seq ?_
  refine T_region ?_
  refine TL_pure rfl rfl rfl rfl (op_assign rfl) ?_
  refine TL_nil ?_
  refine T_seq ?_
  refine T_region ?_
  refine TL_pure rfl rfl rfl rfl (op_move rfl) ?_
  obtain ⟨r4, hr4, hm⟩ := bindS hm
  refine TL_callF (ACall.F (F := F) (c_impl_within p0 (0 : Int) (3 : Int) r4 hr4)) Try.call72 rfl rfl rfl rfl rfl ?_
  refine TL_pure rfl rfl rfl rfl (op_assign rfl) ?_
  refine TL_nil ?_
  refine T_keepH [2] [] rfl rfl rfl rfl (by rw [hF]; rfl) ?_
  refine T_ret ?_
  obtain rfl := someI hm
  refine ⟨[_], [], ⟨rfl, trivial⟩, ?_, rfl, rfl, rfl, rfl⟩
  rfl
theorem c_impl_isPlace (p0 : Int) (out : Bool) (hm : m_impl_isPlace p0 = some out) : ACall Try.prog 173 [.int .i64 p0] [] (.bool out) [] := by
  refine ACall.intro Try.func173 rfl Try.ntmps173 rfl (fun F hF => ?_)
  unfold m_impl_isPlace at hm
  refine T_seq ?_
  refine T_region ?_
  refine TL_pure rfl rfl rfl rfl (op_assign rfl) ?_
  refine TL_nil ?_
  refine T_seq ?_
  refine T_region ?_
  refine TL_pure rfl rfl rfl rfl (op_move rfl) ?_
  obtain ⟨r4, hr4, hm⟩ := bindS hm
  refine TL_callF (ACall.F (F := F) (c_impl_within p0 (0 : Int) (79 : Int) r4 hr4)) Try.call72 rfl rfl rfl rfl rfl ?_
  refine TL_pure rfl rfl rfl rfl (op_assign rfl) ?_
  refine TL_nil ?_
  refine T_keepH [2] [] rfl rfl rfl rfl (by rw [hF]; rfl) ?_
  refine T_ret ?_
  obtain rfl := someI hm
  refine ⟨[_], [], ⟨rfl, trivial⟩, ?_, rfl, rfl, rfl, rfl⟩
  rfl
theorem c_impl_isEvent (p0 : Int) (out : Bool) (hm : m_impl_isEvent p0 = some out) : ACall Try.prog 174 [.int .i64 p0] [] (.bool out) [] := by
  refine ACall.intro Try.func174 rfl Try.ntmps174 rfl (fun F hF => ?_)
  unfold m_impl_isEvent at hm
  refine T_seq ?_
  refine T_region ?_
  refine TL_pure rfl rfl rfl rfl (op_assign rfl) ?_
  refine TL_nil ?_
  refine T_seq ?_
  refine T_region ?_
  refine TL_pure rfl rfl rfl rfl (op_move rfl) ?_
  obtain ⟨r4, hr4, hm⟩ := bindS hm
  refine TL_callF (ACall.F (F := F) (c_impl_within p0 (0 : Int) (3 : Int) r4 hr4)) Try.call72 rfl rfl rfl rfl rfl ?_
  refine TL_pure rfl rfl rfl rfl (op_assign rfl) ?_
  refine TL_nil ?_
  refine T_keepH [2] [] rfl rfl rfl rfl (by rw [hF]; rfl) ?_
  refine T_ret ?_
  obtain rfl := someI hm
  refine ⟨[_], [], ⟨rfl, trivial⟩, ?_, rfl, rfl, rfl, rfl⟩
  rfl
theorem c_impl_ValidInstr (p0 : Instr) (out : Bool) (hm : m_impl_ValidInstr p0 = some out) : ACall Try.prog 132 [.agg [.int .i64 p0.Op, .int .i64 p0.Arg]] [] (.bool out) [] := by
  refine ACall.intro Try.func132 rfl Try.ntmps132 rfl (fun F hF => ?_)
  unfold m_impl_ValidInstr at hm
  refine T_seq ?_
  refine T_region ?_
  refine TL_box 11 rfl rfl rfl rfl rfl rfl rfl ?_
  refine TL_pure rfl rfl rfl rfl (op_assign rfl) ?_
  refine TL_nil ?_
  refine T_seq ?_
  refine T_seq ?_
  refine T_region ?_
  refine TL_pure rfl rfl rfl rfl (op_fieldAddr fa40_0 rfl rfl) ?_
  refine TL_pure rfl rfl rfl rfl (op_load_one ag2 rfl rfl) ?_
  refine TL_nil ?_
  refine T_block ?_
  refine T_join (fun (j0 : Bool) => ⟨[(1, .ptr 11 0 0), (4, .int .i64 p0.Op), (5, .bool j0)], [(11, .box [.int .i64 p0.Op, .int .i64 p0.Arg])]⟩) (fun j0 => m_impl_ValidInstr_J0 p0 j0 = some out) (fun j0 hm => ?_) (fun hj0 => ?_)
  · unfold m_impl_ValidInstr_J0 at hm
    refine T_cond rfl (fun hq => ?_) (fun hq => ?_)
    · replace hm := condT hq hm
      refine T_seq ?_
      refine T_region ?_
      refine TL_pure rfl rfl rfl rfl (op_fieldAddr fa40_1 rfl rfl) ?_
      refine TL_pure rfl rfl rfl rfl (op_load_one ag2 rfl rfl) ?_
      obtain ⟨r10, hr10, hm⟩ := bindS hm
      refine TL_callF (ACall.F (F := F) (c_impl_isCoeff p0.Arg r10 hr10)) Try.call171 rfl rfl rfl rfl rfl ?_
      refine TL_pure rfl rfl rfl rfl (op_assign rfl) ?_
      refine TL_nil ?_
      refine T_keepH [2] [] rfl rfl rfl rfl (by rw [hF]; rfl) ?_
      refine T_ret ?_
      obtain rfl := someI hm
      refine ⟨[_], [], ⟨rfl, trivial⟩, ?_, rfl, rfl, rfl, rfl⟩
      rfl
    · replace hm := condF hq hm
      refine T_join (fun (j1 : Bool) => ⟨[(1, .ptr 11 0 0), (4, .int .i64 p0.Op), (11, .bool j1)], [(11, .box [.int .i64 p0.Op, .int .i64 p0.Arg])]⟩) (fun j1 => m_impl_ValidInstr_J1 p0 j1 = some out) (fun j1 hm => ?_) (fun hj1 => ?_)
      · unfold m_impl_ValidInstr_J1 at hm
        refine T_cond rfl (fun hq => ?_) (fun hq => ?_)
        · replace hm := condT hq hm
          refine T_seq ?_
          refine T_region ?_
          refine TL_pure rfl rfl rfl rfl (op_fieldAddr fa40_1 rfl rfl) ?_
          refine TL_pure rfl rfl rfl rfl (op_load_one ag2 rfl rfl) ?_
          obtain ⟨r16, hr16, hm⟩ := bindS hm
          refine TL_callF (ACall.F (F := F) (c_impl_isVar p0.Arg r16 hr16)) Try.call172 rfl rfl rfl rfl rfl ?_
          refine TL_pure rfl rfl rfl rfl (op_assign rfl) ?_
          refine TL_nil ?_
          refine T_keepH [2] [] rfl rfl rfl rfl (by rw [hF]; rfl) ?_
          refine T_ret ?_
          obtain rfl := someI hm
          refine ⟨[_], [], ⟨rfl, trivial⟩, ?_, rfl, rfl, rfl, rfl⟩
          rfl
        · replace hm := condF hq hm
          refine T_join (fun (j2 : Bool) => ⟨[(1, .ptr 11 0 0), (4, .int .i64 p0.Op), (17, .bool j2)], [(11, .box [.int .i64 p0.Op, .int .i64 p0.Arg])]⟩) (fun j2 => m_impl_ValidInstr_J2 p0 j2 = some out) (fun j2 hm => ?_) (fun hj2 => ?_)
          · unfold m_impl_ValidInstr_J2 at hm
            refine T_cond rfl (fun hq => ?_) (fun hq => ?_)
            · replace hm := condT hq hm
              refine T_seq ?_
              refine T_region ?_
              refine TL_pure rfl rfl rfl rfl (op_fieldAddr fa40_1 rfl rfl) ?_
              refine TL_pure rfl rfl rfl rfl (op_load_one ag2 rfl rfl) ?_
              obtain ⟨r22, hr22, hm⟩ := bindS hm
              refine TL_callF (ACall.F (F := F) (c_impl_isPlace p0.Arg r22 hr22)) Try.call173 rfl rfl rfl rfl rfl ?_
              refine TL_pure rfl rfl rfl rfl (op_assign rfl) ?_
              refine TL_nil ?_
              refine T_keepH [2] [] rfl rfl rfl rfl (by rw [hF]; rfl) ?_
              refine T_ret ?_
              obtain rfl := someI hm
              refine ⟨[_], [], ⟨rfl, trivial⟩, ?_, rfl, rfl, rfl, rfl⟩
              rfl
            · replace hm := condF hq hm
              refine T_seq ?_
              refine T_region ?_
              refine TL_pure rfl rfl rfl rfl (op_eql rfl rfl) ?_
              refine TL_pure rfl rfl rfl rfl (op_assign rfl) ?_
              refine TL_nil ?_
              refine T_cond rfl (fun hq => ?_) (fun hq => ?_)
              · replace hm := condT hq hm
                refine T_seq ?_
                refine T_region ?_
                refine TL_pure rfl rfl rfl rfl (op_fieldAddr fa40_1 rfl rfl) ?_
                refine TL_pure rfl rfl rfl rfl (op_load_one ag2 rfl rfl) ?_
                obtain ⟨r27, hr27, hm⟩ := bindS hm
                refine TL_callF (ACall.F (F := F) (c_impl_isEvent p0.Arg r27 hr27)) Try.call174 rfl rfl rfl rfl rfl ?_
                refine TL_pure rfl rfl rfl rfl (op_assign rfl) ?_
                refine TL_nil ?_
                refine T_keepH [2] [] rfl rfl rfl rfl (by rw [hF]; rfl) ?_
                refine T_ret ?_
                obtain rfl := someI hm
                refine ⟨[_], [], ⟨rfl, trivial⟩, ?_, rfl, rfl, rfl, rfl⟩
                rfl
              · replace hm := condF hq hm
                refine T_join (fun (j3 : Bool) => ⟨[(1, .ptr 11 0 0), (28, .bool j3)], [(11, .box [.int .i64 p0.Op, .int .i64 p0.Arg])]⟩) (fun j3 => m_impl_ValidInstr_J3 p0 j3 = some out) (fun j3 hm => ?_) (fun hj3 => ?_)
                · unfold m_impl_ValidInstr_J3 at hm
                  refine T_cond rfl (fun hq => ?_) (fun hq => ?_)
                  · replace hm := condT hq hm
                    refine T_seq ?_
                    refine T_region ?_
                    refine TL_pure rfl rfl rfl rfl (op_fieldAddr fa40_1 rfl rfl) ?_
                    refine TL_pure rfl rfl rfl rfl (op_load_one ag2 rfl rfl) ?_
                    refine TL_pure rfl rfl rfl rfl (op_eql rfl rfl) ?_
                    refine TL_pure rfl rfl rfl rfl (op_assign rfl) ?_
                    refine TL_nil ?_
                    refine T_keepH [2] [] rfl rfl rfl rfl (by rw [hF]; rfl) ?_
                    refine T_ret ?_
                    obtain rfl := someI hm
                    refine ⟨[_], [], ⟨rfl, trivial⟩, ?_, rfl, rfl, rfl, rfl⟩
                    rfl
                  · replace hm := condF hq hm
                    refine T_skip ?_
                    refine T_seq ?_
                    refine T_region ?_
                    refine TL_pure rfl rfl rfl rfl (op_assign rfl) ?_
                    refine TL_nil ?_
                    refine T_keepH [2] [] rfl rfl rfl rfl (by rw [hF]; rfl) ?_
                    refine T_ret ?_
                    obtain rfl := someI hm
                    refine ⟨[_], [], ⟨rfl, trivial⟩, ?_, rfl, rfl, rfl, rfl⟩
                    rfl
                · refine T_seq ?_
                  refine T_region ?_
                  refine TL_pure rfl rfl rfl rfl (op_eql rfl rfl) ?_
                  refine TL_pure rfl rfl rfl rfl (op_assign rfl) ?_
                  refine TL_nil ?_
                  refine T_cond rfl (fun hq => ?_) (fun hq => ?_)
                  · replace hm := condT hq hm
                    refine T_skip ?_
                    refine T_keepH [1, 28] [11] rfl rfl rfl rfl (by rw [hF]; rfl) ?_
                    exact hj3 (decide (p0.Op = (3 : Int))) hm
                  · replace hm := condF hq hm
                    refine T_seq ?_
                    refine T_region ?_
                    refine TL_pure rfl rfl rfl rfl (op_eql rfl rfl) ?_
                    refine TL_pure rfl rfl rfl rfl (op_assign rfl) ?_
                    refine TL_nil ?_
                    refine T_cond rfl (fun hq => ?_) (fun hq => ?_)
                    · replace hm := condT hq hm
                      refine T_skip ?_
                      refine T_keepH [1, 28] [11] rfl rfl rfl rfl (by rw [hF]; rfl) ?_
                      exact hj3 (decide (p0.Op = (7 : Int))) hm
                    · replace hm := condF hq hm
                      refine T_seq ?_
                      refine T_region ?_
                      refine TL_pure rfl rfl rfl rfl (op_eql rfl rfl) ?_
                      refine TL_pure rfl rfl rfl rfl (op_assign rfl) ?_
                      refine TL_nil ?_
                      refine T_cond rfl (fun hq => ?_) (fun hq => ?_)
                      · replace hm := condT hq hm
                        refine T_skip ?_
                        refine T_keepH [1, 28] [11] rfl rfl rfl rfl (by rw [hF]; rfl) ?_
                        exact hj3 (decide (p0.Op = (8 : Int))) hm
                      · replace hm := condF hq hm
                        refine T_seq ?_
                        refine T_region ?_
                        refine TL_pure rfl rfl rfl rfl (op_eql rfl rfl) ?_
                        refine TL_pure rfl rfl rfl rfl (op_assign rfl) ?_
                        refine TL_nil ?_
                        refine T_cond rfl (fun hq => ?_) (fun hq => ?_)
                        · replace hm := condT hq hm
                          refine T_skip ?_
                          refine T_keepH [1, 28] [11] rfl rfl rfl rfl (by rw [hF]; rfl) ?_
                          exact hj3 (decide (p0.Op = (10 : Int))) hm
                        · replace hm := condF hq hm
                          refine T_region ?_
                          refine TL_pure rfl rfl rfl rfl (op_eql rfl rfl) ?_
                          refine TL_pure rfl rfl rfl rfl (op_assign rfl) ?_
                          refine TL_nil ?_
                          refine T_keepH [1, 28] [11] rfl rfl rfl rfl (by rw [hF]; rfl) ?_
                          exact hj3 (decide (p0.Op = (11 : Int))) hm
          · refine T_seq ?_
            refine T_region ?_
            refine TL_pure rfl rfl rfl rfl (op_eql rfl rfl) ?_
            refine TL_pure rfl rfl rfl rfl (op_assign rfl) ?_
            refine TL_nil ?_
            refine T_cond rfl (fun hq => ?_) (fun hq => ?_)
            · replace hm := condT hq hm
              refine T_skip ?_
              refine T_keepH [1, 4, 17] [11] rfl rfl rfl rfl (by rw [hF]; rfl) ?_
              exact hj2 (decide (p0.Op = (5 : Int))) hm
            · replace hm := condF hq hm
              refine T_region ?_
              refine TL_pure rfl rfl rfl rfl (op_eql rfl rfl) ?_
              refine TL_pure rfl rfl rfl rfl (op_assign rfl) ?_
              refine TL_nil ?_
              refine T_keepH [1, 4, 17] [11] rfl rfl rfl rfl (by rw [hF]; rfl) ?_
              exact hj2 (decide (p0.Op = (6 : Int))) hm
      · refine T_seq ?_
        refine T_region ?_
        refine TL_pure rfl rfl rfl rfl (op_eql rfl rfl) ?_
        refine TL_pure rfl rfl rfl rfl (op_assign rfl) ?_
        refine TL_nil ?_
        refine T_cond rfl (fun hq => ?_) (fun hq => ?_)
        · replace hm := condT hq hm
          refine T_skip ?_
          refine T_keepH [1, 4, 11] [11] rfl rfl rfl rfl (by rw [hF]; rfl) ?_
          exact hj1 (decide (p0.Op = (1 : Int))) hm
        · replace hm := condF hq hm
          refine T_region ?_
          refine TL_pure rfl rfl rfl rfl (op_eql rfl rfl) ?_
          refine TL_pure rfl rfl rfl rfl (op_assign rfl) ?_
          refine TL_nil ?_
          refine T_keepH [1, 4, 11] [11] rfl rfl rfl rfl (by rw [hF]; rfl) ?_
          exact hj1 (decide (p0.Op = (2 : Int))) hm
  · refine T_seq ?_
    refine T_region ?_
    refine TL_pure rfl rfl rfl rfl (op_eql rfl rfl) ?_
    refine TL_pure rfl rfl rfl rfl (op_assign rfl) ?_
    refine TL_nil ?_
    refine T_cond rfl (fun hq => ?_) (fun hq => ?_)
    · replace hm := condT hq hm
      refine T_skip ?_
      refine T_keepH [1, 4, 5] [11] rfl rfl rfl rfl (by rw [hF]; rfl) ?_
      exact hj0 (decide (p0.Op = (0 : Int))) hm
    · replace hm := condF hq hm
      refine T_region ?_
      refine TL_pure rfl rfl rfl rfl (op_eql rfl rfl) ?_
      refine TL_pure rfl rfl rfl rfl (op_assign rfl) ?_
      refine TL_nil ?_
      refine T_keepH [1, 4, 5] [11] rfl rfl rfl rfl (by rw [hF]; rfl) ?_
      exact hj0 (decide (p0.Op = (4 : Int))) hm
theorem c_impl_ValidCode_1 (p0 : Instr) (out : Bool) (hm : m_impl_ValidCode_1 p0 = some out) : ACall Try.prog 131 [.agg [.int .i64 p0.Op, .int .i64 p0.Arg]] [] (.bool out) [] := by
  refine ACall.intro Try.func131 rfl Try.ntmps131 rfl (fun F hF => ?_)
  unfold m_impl_ValidCode_1 at hm
  refine T_seq ?_
  refine T_region ?_
  refine TL_box 11 rfl rfl rfl rfl rfl rfl rfl ?_
  refine TL_pure rfl rfl rfl rfl (op_assign rfl) ?_
  refine TL_nil ?_
  refine T_seq ?_
  refine T_region ?_
  refine TL_pure rfl rfl rfl rfl (op_load_agg ag40 sz40 rfl rfl rfl) ?_
  obtain ⟨r4, hr4, hm⟩ := bindS hm
  refine TL_callF (ACall.F (F := F) (c_impl_ValidInstr p0 r4 hr4)) Try.call132 rfl rfl rfl rfl rfl ?_
  refine TL_pure rfl rfl rfl rfl (op_not rfl) ?_
  refine TL_pure rfl rfl rfl rfl (op_assign rfl) ?_
  refine TL_nil ?_
  refine T_keepH [2] [] rfl rfl rfl rfl (by rw [hF]; rfl) ?_
  refine T_ret ?_
  obtain rfl := someI hm
  refine ⟨[_], [], ⟨rfl, trivial⟩, ?_, rfl, rfl, rfl, rfl⟩
  rfl
theorem c_slices_IndexFunc_impl_Instr_impl_Instr_fValidCode_1 (p0 : List Instr) (out : Int) (hm : m_slices_IndexFunc_impl_Instr_impl_Instr_fValidCode_1 p0 = some out) : ACall Try.prog 170 [.sl 2 (List.map a_Instr p0), .fn (.func 131) [] []] [] (.int .i64 out) [] := by
  refine ACall.intro Try.func170 rfl Try.ntmps170 rfl (fun F hF => ?_)
  unfold m_slices_IndexFunc_impl_Instr_impl_Instr_fValidCode_1 at hm
  refine T_seq ?_
  refine T_region ?_
  refine TL_pure rfl rfl rfl rfl (op_assign rfl) ?_
  refine TL_nil ?_
  refine T_seq ?_
  refine T_seq ?_
  refine T_region ?_
  refine TL_pure rfl rfl rfl rfl (op_move rfl) ?_
  refine TL_pure rfl rfl rfl rfl (op_lenT Try.underlying24 rfl (List.length_map _)) ?_
  refine TL_fact (fun _ _ _ hr => RelP.slLen (i := 6) rfl hr) (fun hlen7 => ?_)
  rw [List.length_map] at hlen7
  refine TL_pure rfl rfl rfl rfl (op_move rfl) ?_
  refine TL_nil ?_
  refine T_block ?_
  refine T_keepH [0, 1, 7, 8] [] rfl rfl rfl rfl (by rw [hF]; rfl) ?_
  refine T_loop ?_
  obtain ⟨u0, hl0, hm⟩ := bindS hm
  refine TR_forL2 p0 (m_slices_IndexFunc_impl_Instr_impl_Instr_fValidCode_1_L0) (fun (s0 : Unit) => (.inl ())) (fun n0 (s0 : Unit) => ⟨[(0, .sl 2 (List.map a_Instr p0)), (1, .fn (.func 131) [] []), (7, .int .i64 (p0.length : Int)), (8, .int .i64 (n0 : Int))], []⟩) (fun u0 => match u0 with | .inl u0 => .exit 0 | .inr u0 => .ret) (fun u0 => match u0 with | .inl u0 => ⟨[], []⟩ | .inr u0 => ⟨[(4, .int .i64 u0)], []⟩) (fun u0 => m_slices_IndexFunc_impl_Instr_impl_Instr_fValidCode_1_A0 u0 = some out) hl0 hm (fun u0 hm => ?_) (fun hx0 s0 hm => ?_) (fun hx0 n0 x0 s0 c0 hxn0 hlt0 hm hc0 => ?_)
  · rcases u0 with u0 | u0
    · unfold m_slices_IndexFunc_impl_Instr_impl_Instr_fValidCode_1_A0 at hm
      refine T_seq ?_
      refine T_region ?_
      refine TL_pure rfl rfl rfl rfl (op_assign rfl) ?_
      refine TL_nil ?_
      refine T_keepH [4] [] rfl rfl rfl rfl (by rw [hF]; rfl) ?_
      refine T_ret ?_
      obtain rfl := someI hm
      refine ⟨[_], [], ⟨rfl, trivial⟩, ?_, rfl, rfl, rfl, rfl⟩
      rfl
    · unfold m_slices_IndexFunc_impl_Instr_impl_Instr_fValidCode_1_A0 at hm
      obtain rfl := someI hm
      refine ⟨[_], [], ⟨rfl, trivial⟩, ?_, rfl, rfl, rfl, rfl⟩
      rfl
  · refine T_seq ?_
    refine T_region ?_
    refine TL_pure rfl rfl rfl rfl (op_lss rfl rfl) ?_
    refine TL_nil ?_
    refine T_seq ?_
    refine T_if_false rfl (decide_eq_false (by simp)) ?_
    refine T_keepH [] [] rfl rfl rfl rfl (by rw [hF]; rfl) ?_
    refine T_exit ?_
    exact hx0 (.inl ()) hm
  · unfold m_slices_IndexFunc_impl_Instr_impl_Instr_fValidCode_1_L0 at hm
    refine T_seq ?_
    refine T_region ?_
    refine TL_pure rfl rfl rfl rfl (op_lss rfl rfl) ?_
    refine TL_nil ?_
    refine T_seq ?_
    refine T_if_true rfl (decide_eq_true (Int.ofNat_lt.2 hlt0)) ?_
    refine T_skip ?_
    refine T_seq ?_
    refine T_block ?_
    refine T_seq ?_
    refine T_region ?_
    refine TL_pure rfl rfl rfl rfl (op_move rfl) ?_
    refine TL_pure rfl rfl rfl rfl (op_assign rfl) ?_
    refine TL_nil ?_
    refine T_seq ?_
    refine T_region ?_
    refine TL_pure rfl rfl rfl rfl (op_move rfl) ?_
    refine TL_pure rfl rfl rfl rfl (op_move rfl) ?_
    refine TL_pure rfl rfl rfl rfl (op_move rfl) ?_
    refine TL_pure rfl rfl rfl rfl (op_index_sl el24 rfl rfl rfl (get_map hxn0) rfl) ?_
    refine TL_pure rfl rfl rfl rfl (op_load_agg ag40 sz40 rfl rfl rfl) ?_
    obtain ⟨r16, hr16, hm⟩ := bindS hm
    refine TL_callV rfl (ACall.F (F := F) (c_impl_ValidCode_1 x0 r16 hr16)) Try.call131 rfl rfl rfl rfl rfl ?_
    refine TL_nil ?_
    refine T_cond rfl (fun hq => ?_) (fun hq => ?_)
    · replace hm := condT hq hm
      refine T_seq ?_
      refine T_region ?_
      refine TL_pure rfl rfl rfl rfl (op_move rfl) ?_
      refine TL_pure rfl rfl rfl rfl (op_assign rfl) ?_
      refine TL_nil ?_
      refine T_keepH [4] [] rfl rfl rfl rfl (by rw [hF]; rfl) ?_
      refine T_ret ?_
      obtain rfl := someI hm
      have hn := CtlOK_out hc0
      exact hx0 (.inr (n0 : Int)) hn
    · replace hm := condF hq hm
      refine T_skip ?_
      refine T_region ?_
      refine TL_pure rfl rfl rfl rfl (op_addN rfl rfl (Nat.lt_of_lt_of_le hlt0 hlen7)) ?_
      refine TL_pure rfl rfl rfl rfl (op_move rfl) ?_
      refine TL_nil ?_
      refine TR_keepH [0, 1, 7, 8] [] rfl rfl rfl rfl (by rw [hF]; rfl) ?_
      obtain rfl := someI hm
      have hn := CtlOK_next hc0
      exact hn _ rfl
theorem c_slices_ContainsFunc_impl_Instr_impl_Instr_fValidCode_1 (p0 : List Instr) (out : Bool) (hm : m_slices_ContainsFunc_impl_Instr_impl_Instr_fValidCode_1 p0 = some out) : ACall Try.prog 130 [.sl 2 (List.map a_Instr p0), .fn (.func 131) [] []] [] (.bool out) [] := by
  refine ACall.intro Try.func130 rfl Try.ntmps130 rfl (fun F hF => ?_)
  unfold m_slices_ContainsFunc_impl_Instr_impl_Instr_fValidCode_1 at hm
  refine T_seq ?_
  refine T_region ?_
  refine TL_pure rfl rfl rfl rfl (op_assign rfl) ?_
  refine TL_nil ?_
  refine T_seq ?_
  refine T_region ?_
  refine TL_pure rfl rfl rfl rfl (op_move rfl) ?_
  refine TL_pure rfl rfl rfl rfl (op_move rfl) ?_
  obtain ⟨r7, hr7, hm⟩ := bindS hm
  refine TL_callF (ACall.F (F := F) (c_slices_IndexFunc_impl_Instr_impl_Instr_fValidCode_1 p0 r7 hr7)) Try.call170 rfl rfl rfl rfl rfl ?_
  refine TL_pure rfl rfl rfl rfl (op_geq rfl rfl) ?_
  refine TL_pure rfl rfl rfl rfl (op_assign rfl) ?_
  refine TL_nil ?_
  refine T_keepH [4] [] rfl rfl rfl rfl (by rw [hF]; rfl) ?_
  refine T_ret ?_
  obtain rfl := someI hm
  refine ⟨[_], [], ⟨rfl, trivial⟩, ?_, rfl, rfl, rfl, rfl⟩
  rfl
theorem c_impl_ValidCode (p0 : List Instr) (out : Bool) (hm : m_impl_ValidCode p0 = some out) : ACall Try.prog 69 [.sl 2 (List.map a_Instr p0)] [] (.bool out) [] := by
  refine ACall.intro Try.func69 rfl Try.ntmps69 rfl (fun F hF => ?_)
  unfold m_impl_ValidCode at hm
  refine T_seq ?_
  refine T_region ?_
  refine TL_pure rfl rfl rfl rfl (op_assign rfl) ?_
  refine TL_nil ?_
  refine T_seq ?_
  refine T_region ?_
  refine TL_pure rfl rfl rfl rfl (op_move rfl) ?_
  refine TL_pure rfl rfl rfl rfl (op_lenT Try.underlying24 rfl (List.length_map _)) ?_
  refine TL_fact (fun _ _ _ hr => RelP.slLen (i := 3) rfl hr) (fun hlen4 => ?_)
  rw [List.length_map] at hlen4
  obtain ⟨r5, hr5, hm⟩ := bindS hm
  refine TL_callF (ACall.F (F := F) (c_impl_size (p0.length : Int) r5 hr5)) Try.call129 rfl rfl rfl rfl rfl ?_
  obtain ⟨r6, hr6, hm⟩ := bindS hm
  refine TL_callF (ACall.F (F := F) (c_impl_within r5 (1 : Int) (80 : Int) r6 hr6)) Try.call72 rfl rfl rfl rfl rfl ?_
  refine TL_pure rfl rfl rfl rfl (op_move rfl) ?_
  refine TL_split 7 rfl rfl rfl (fun hq => ?_) (fun hq => ?_)
  · replace hm := condT hq hm
    refine TL_want rfl rfl ?_
    refine TL_pure rfl rfl rfl rfl (op_move rfl) ?_
    refine TL_want rfl rfl ?_
    obtain ⟨r9, hr9, hm⟩ := bindS hm
    refine TL_callF (ACall.F (F := F) (c_slices_ContainsFunc_impl_Instr_impl_Instr_fValidCode_1 p0 r9 hr9)) Try.call130 rfl rfl rfl rfl rfl ?_
    refine TL_want rfl rfl ?_
    refine TL_pure rfl rfl rfl rfl (op_not rfl) ?_
    refine TL_pure rfl rfl rfl rfl (op_pick_true rfl rfl) ?_
    refine TL_pure rfl rfl rfl rfl (op_assign rfl) ?_
    refine TL_nil ?_
    refine T_keepH [2] [] rfl rfl rfl rfl (by rw [hF]; rfl) ?_
    refine T_ret ?_
    obtain rfl := someI hm
    refine ⟨[_], [], ⟨rfl, trivial⟩, ?_, rfl, rfl, rfl, rfl⟩
    rfl
  · replace hm := condF hq hm
    refine TL_pass rfl rfl rfl rfl rfl rfl rfl ?_
    refine TL_pass rfl rfl rfl rfl rfl rfl rfl ?_
    refine TL_pass rfl rfl rfl rfl rfl rfl rfl ?_
    refine TL_pure rfl rfl rfl rfl (op_pick_false rfl rfl) ?_
    refine TL_pure rfl rfl rfl rfl (op_assign rfl) ?_
    refine TL_nil ?_
    refine T_keepH [2] [] rfl rfl rfl rfl (by rw [hF]; rfl) ?_
    refine T_ret ?_
    obtain rfl := someI hm
    refine ⟨[_], [], ⟨rfl, trivial⟩, ?_, rfl, rfl, rfl, rfl⟩
    rfl
theorem c_impl_allWithin (p0 : List Int) (p1 : Int) (p2 : Int) (out : Bool) (hm : m_impl_allWithin p0 p1 p2 = some out) : ACall Try.prog 71 [.sl 1 (List.map a_i64 p0), .int .i64 p1, .int .i64 p2] [] (.bool out) [] := by
  refine ACall.intro Try.func71 rfl Try.ntmps71 rfl (fun F hF => ?_)
  unfold m_impl_allWithin at hm
  refine T_seq ?_
  refine T_region ?_
  refine TL_pure rfl rfl rfl rfl (op_assign rfl) ?_
  refine TL_nil ?_
  refine T_seq ?_
  refine T_seq ?_
  refine T_region ?_
  refine TL_pure rfl rfl rfl rfl (op_move rfl) ?_
  refine TL_pure rfl rfl rfl rfl (op_lenT Try.underlying26 rfl (List.length_map _)) ?_
  refine TL_fact (fun _ _ _ hr => RelP.slLen (i := 9) rfl hr) (fun hlen10 => ?_)
  rw [List.length_map] at hlen10
  refine TL_pure rfl rfl rfl rfl (op_move rfl) ?_
  refine TL_nil ?_
  refine T_block ?_
  refine T_keepH [1, 2, 9, 10, 11] [] rfl rfl rfl rfl (by rw [hF]; rfl) ?_
  refine T_loop ?_
  obtain ⟨u0, hl0, hm⟩ := bindS hm
  refine TR_forL2 p0 (m_impl_allWithin_L0 p1 p2) (fun (s0 : Unit) => (.inl ())) (fun n0 (s0 : Unit) => ⟨[(1, .int .i64 p1), (2, .int .i64 p2), (9, .sl 1 (List.map a_i64 p0)), (10, .int .i64 (p0.length : Int)), (11, .int .i64 (n0 : Int))], []⟩) (fun u0 => match u0 with | .inl u0 => .exit 0 | .inr u0 => .ret) (fun u0 => match u0 with | .inl u0 => ⟨[], []⟩ | .inr u0 => ⟨[(6, .bool u0)], []⟩) (fun u0 => m_impl_allWithin_A0 u0 = some out) hl0 hm (fun u0 hm => ?_) (fun hx0 s0 hm => ?_) (fun hx0 n0 x0 s0 c0 hxn0 hlt0 hm hc0 => ?_)
  · rcases u0 with u0 | u0
    · unfold m_impl_allWithin_A0 at hm
      refine T_seq ?_
      refine T_region ?_
      refine TL_pure rfl rfl rfl rfl (op_assign rfl) ?_
      refine TL_nil ?_
      refine T_keepH [6] [] rfl rfl rfl rfl (by rw [hF]; rfl) ?_
      refine T_ret ?_
      obtain rfl := someI hm
      refine ⟨[_], [], ⟨rfl, trivial⟩, ?_, rfl, rfl, rfl, rfl⟩
      rfl
    · unfold m_impl_allWithin_A0 at hm
      obtain rfl := someI hm
      refine ⟨[_], [], ⟨rfl, trivial⟩, ?_, rfl, rfl, rfl, rfl⟩
      rfl
  · refine T_seq ?_
    refine T_region ?_
    refine TL_pure rfl rfl rfl rfl (op_lss rfl rfl) ?_
    refine TL_nil ?_
    refine T_seq ?_
    refine T_if_false rfl (decide_eq_false (by simp)) ?_
    refine T_keepH [] [] rfl rfl rfl rfl (by rw [hF]; rfl) ?_
    refine T_exit ?_
    exact hx0 (.inl ()) hm
  · unfold m_impl_allWithin_L0 at hm
    refine T_seq ?_
    refine T_region ?_
    refine TL_pure rfl rfl rfl rfl (op_lss rfl rfl) ?_
    refine TL_nil ?_
    refine T_seq ?_
    refine T_if_true rfl (decide_eq_true (Int.ofNat_lt.2 hlt0)) ?_
    refine T_skip ?_
    refine T_seq ?_
    refine T_block ?_
    refine T_seq ?_
    refine T_region ?_
    refine TL_pure rfl rfl rfl rfl (op_index_sl el26 rfl rfl rfl (get_map hxn0) rfl) ?_
    refine TL_pure rfl rfl rfl rfl (op_load_one ag2 rfl rfl) ?_
    refine TL_pure rfl rfl rfl rfl (op_assign rfl) ?_
    refine TL_nil ?_
    refine T_seq ?_
    refine T_region ?_
    refine TL_pure rfl rfl rfl rfl (op_move rfl) ?_
    refine TL_pure rfl rfl rfl rfl (op_move rfl) ?_
    refine TL_pure rfl rfl rfl rfl (op_move rfl) ?_
    obtain ⟨r18, hr18, hm⟩ := bindS hm
    refine TL_callF (ACall.F (F := F) (c_impl_within x0 p1 p2 r18 hr18)) Try.call72 rfl rfl rfl rfl rfl ?_
    refine TL_pure rfl rfl rfl rfl (op_not rfl) ?_
    refine TL_nil ?_
    refine T_cond rfl (fun hq => ?_) (fun hq => ?_)
    · replace hm := condT hq hm
      refine T_seq ?_
      refine T_region ?_
      refine TL_pure rfl rfl rfl rfl (op_assign rfl) ?_
      refine TL_nil ?_
      refine T_keepH [6] [] rfl rfl rfl rfl (by rw [hF]; rfl) ?_
      refine T_ret ?_
      obtain rfl := someI hm
      have hn := CtlOK_out hc0
      exact hx0 (.inr false) hn
    · replace hm := condF hq hm
      refine T_skip ?_
      refine T_region ?_
      refine TL_pure rfl rfl rfl rfl (op_addN rfl rfl (Nat.lt_of_lt_of_le hlt0 hlen10)) ?_
      refine TL_pure rfl rfl rfl rfl (op_move rfl) ?_
      refine TL_nil ?_
      refine TR_keepH [1, 2, 9, 10, 11] [] rfl rfl rfl rfl (by rw [hF]; rfl) ?_
      obtain rfl := someI hm
      have hn := CtlOK_next hc0
      exact hn _ rfl
theorem c_impl_ValidTerm (p0 : Term) (out : Bool) (hm : m_impl_ValidTerm p0 = some out) : ACall Try.prog 190 [.agg [.int .i64 p0.Const, .sl 1 (List.map a_i64 p0.Coeffs)]] [] (.bool out) [] := by
  refine ACall.intro Try.func190 rfl Try.ntmps190 rfl (fun F hF => ?_)
  unfold m_impl_ValidTerm at hm
  refine T_seq ?_
  refine T_region ?_
  refine TL_box 11 rfl rfl rfl rfl rfl rfl rfl ?_
  refine TL_pure rfl rfl rfl rfl (op_assign rfl) ?_
  refine TL_nil ?_
  refine T_seq ?_
  refine T_region ?_
  refine TL_pure rfl rfl rfl rfl (op_fieldAddr fa184_1 rfl rfl) ?_
  refine TL_pure rfl rfl rfl rfl (op_load_one ag26 rfl rfl) ?_
  refine TL_pure rfl rfl rfl rfl (op_lenT Try.underlying26 rfl (List.length_map _)) ?_
  refine TL_fact (fun _ _ _ hr => RelP.slLen (i := 5) rfl hr) (fun hlen6 => ?_)
  rw [List.length_map] at hlen6
  refine TL_pure rfl rfl rfl rfl (op_assign rfl) ?_
  refine TL_nil ?_
  refine T_seq ?_
  refine T_region ?_
  refine TL_pure rfl rfl rfl rfl (op_move rfl) ?_
  refine TL_pure rfl rfl rfl rfl (op_leq rfl rfl) ?_
  refine TL_pure rfl rfl rfl rfl (op_move rfl) ?_
  refine TL_split 9 rfl rfl rfl (fun hq => ?_) (fun hq => ?_)
  · replace hm := condT hq hm
    refine TL_want rfl rfl ?_
    refine TL_pure rfl rfl rfl rfl (op_fieldAddr fa184_0 rfl rfl) ?_
    refine TL_want rfl rfl ?_
    refine TL_pure rfl rfl rfl rfl (op_load_one ag2 rfl rfl) ?_
    refine TL_want rfl rfl ?_
    obtain ⟨r12, hr12, hm⟩ := bindS hm
    refine TL_callF (ACall.F (F := F) (c_impl_isCoeff p0.Const r12 hr12)) Try.call171 rfl rfl rfl rfl rfl ?_
    refine TL_pure rfl rfl rfl rfl (op_pick_true rfl rfl) ?_
    refine TL_pure rfl rfl rfl rfl (op_move rfl) ?_
    refine TL_split 14 rfl rfl rfl (fun hq => ?_) (fun hq => ?_)
    · replace hm := condT hq hm
      refine TL_want rfl rfl ?_
      refine TL_pure rfl rfl rfl rfl (op_fieldAddr fa184_1 rfl rfl) ?_
      refine TL_want rfl rfl ?_
      refine TL_pure rfl rfl rfl rfl (op_load_one ag26 rfl rfl) ?_
      refine TL_want rfl rfl ?_
      obtain ⟨r17, hr17, hm⟩ := bindS hm
      refine TL_callF (ACall.F (F := F) (c_impl_allWithin p0.Coeffs (-1000000 : Int) (1000000 : Int) r17 hr17)) Try.call71 rfl rfl rfl rfl rfl ?_
      refine TL_pure rfl rfl rfl rfl (op_pick_true rfl rfl) ?_
      refine TL_pure rfl rfl rfl rfl (op_move rfl) ?_
      refine TL_split 19 rfl rfl rfl (fun hq => ?_) (fun hq => ?_)
      · replace hm := condT hq hm
        refine TL_want rfl rfl ?_
        refine TL_pure rfl rfl rfl rfl (op_move rfl) ?_
        refine TL_want rfl rfl ?_
        refine TL_pure rfl rfl rfl rfl (op_eql rfl rfl) ?_
        refine TL_want rfl rfl ?_
        refine TL_pure rfl rfl rfl rfl (op_move rfl) ?_
        refine TL_split 22 rfl rfl rfl (fun hq => ?_) (fun hq => ?_)
        · replace hm := condT hq hm
          refine TL_pass rfl rfl rfl rfl rfl rfl rfl ?_
          refine TL_pass rfl rfl rfl rfl rfl rfl rfl ?_
          refine TL_pass rfl rfl rfl rfl rfl rfl rfl ?_
          refine TL_pass rfl rfl rfl rfl rfl rfl rfl ?_
          refine TL_pass rfl rfl rfl rfl rfl rfl rfl ?_
          refine TL_pass rfl rfl rfl rfl rfl rfl rfl ?_
          refine TL_pass rfl rfl rfl rfl rfl rfl rfl ?_
          refine TL_want rfl rfl ?_
          refine TL_pure rfl rfl rfl rfl (op_pick_true rfl rfl) ?_
          refine TL_pure rfl rfl rfl rfl (op_pick_true rfl rfl) ?_
          refine TL_pure rfl rfl rfl rfl (op_assign rfl) ?_
          refine TL_nil ?_
          refine T_keepH [2] [] rfl rfl rfl rfl (by rw [hF]; rfl) ?_
          refine T_ret ?_
          obtain rfl := someI hm
          refine ⟨[_], [], ⟨rfl, trivial⟩, ?_, rfl, rfl, rfl, rfl⟩
          rfl
        · replace hm := condF hq hm
          refine TL_want rfl rfl ?_
          refine TL_pure rfl rfl rfl rfl (op_fieldAddr fa184_1 rfl rfl) ?_
          refine TL_want rfl rfl ?_
          refine TL_pure rfl rfl rfl rfl (op_load_one ag26 rfl rfl) ?_
          refine TL_want rfl rfl ?_
          refine TL_pure rfl rfl rfl rfl (op_move rfl) ?_
          refine TL_want rfl rfl ?_
          refine TL_pure rfl rfl rfl rfl (op_subW rfl rfl) ?_
          refine TL_want rfl rfl ?_
          obtain ⟨x27, hx27, hm⟩ := bindS hm
          refine TL_pure rfl rfl rfl rfl (op_indexT el26 rfl rfl hx27 rfl) ?_
          refine TL_want rfl rfl ?_
          refine TL_pure rfl rfl rfl rfl (op_load_one ag2 rfl rfl) ?_
          refine TL_want rfl rfl ?_
          refine TL_pure rfl rfl rfl rfl (op_neq rfl rfl) ?_
          refine TL_want rfl rfl ?_
          refine TL_pure rfl rfl rfl rfl (op_pick_false rfl rfl) ?_
          refine TL_pure rfl rfl rfl rfl (op_pick_true rfl rfl) ?_
          refine TL_pure rfl rfl rfl rfl (op_assign rfl) ?_
          refine TL_nil ?_
          refine T_keepH [2] [] rfl rfl rfl rfl (by rw [hF]; rfl) ?_
          refine T_ret ?_
          obtain rfl := someI hm
          refine ⟨[_], [], ⟨rfl, trivial⟩, ?_, rfl, rfl, rfl, rfl⟩
          rfl
      · replace hm := condF hq hm
        refine TL_pass rfl rfl rfl rfl rfl rfl rfl ?_
        refine TL_pass rfl rfl rfl rfl rfl rfl rfl ?_
        refine TL_pass rfl rfl rfl rfl rfl rfl rfl ?_
        refine TL_pass2 rfl rfl rfl rfl rfl rfl ?_
        refine TL_pass2 rfl rfl rfl rfl rfl rfl ?_
        refine TL_pass2 rfl rfl rfl rfl rfl rfl ?_
        refine TL_pass2 rfl rfl rfl rfl rfl rfl ?_
        refine TL_pass2 rfl rfl rfl rfl rfl rfl ?_
        refine TL_pass2 rfl rfl rfl rfl rfl rfl ?_
        refine TL_pass2 rfl rfl rfl rfl rfl rfl ?_
        refine TL_pass rfl rfl rfl rfl rfl rfl rfl ?_
        refine TL_pure rfl rfl rfl rfl (op_pick_false rfl rfl) ?_
        refine TL_pure rfl rfl rfl rfl (op_assign rfl) ?_
        refine TL_nil ?_
        refine T_keepH [2] [] rfl rfl rfl rfl (by rw [hF]; rfl) ?_
        refine T_ret ?_
        obtain rfl := someI hm
        refine ⟨[_], [], ⟨rfl, trivial⟩, ?_, rfl, rfl, rfl, rfl⟩
        rfl
    · replace hm := condF hq hm
      refine TL_pass rfl rfl rfl rfl rfl rfl rfl ?_
      refine TL_pass rfl rfl rfl rfl rfl rfl rfl ?_
      refine TL_pass rfl rfl rfl rfl rfl rfl rfl ?_
      refine TL_pure rfl rfl rfl rfl (op_pick_false rfl rfl) ?_
      refine TL_pure rfl rfl rfl rfl (op_move rfl) ?_
      refine TL_pass rfl rfl rfl rfl rfl rfl rfl ?_
      refine TL_pass rfl rfl rfl rfl rfl rfl rfl ?_
      refine TL_pass rfl rfl rfl rfl rfl rfl rfl ?_
      refine TL_pass2 rfl rfl rfl rfl rfl rfl ?_
      refine TL_pass2 rfl rfl rfl rfl rfl rfl ?_
      refine TL_pass2 rfl rfl rfl rfl rfl rfl ?_
      refine TL_pass2 rfl rfl rfl rfl rfl rfl ?_
      refine TL_pass2 rfl rfl rfl rfl rfl rfl ?_
      refine TL_pass2 rfl rfl rfl rfl rfl rfl ?_
      refine TL_pass2 rfl rfl rfl rfl rfl rfl ?_
      refine TL_pass rfl rfl rfl rfl rfl rfl rfl ?_
      refine TL_pure rfl rfl rfl rfl (op_pick_false rfl rfl) ?_
      refine TL_pure rfl rfl rfl rfl (op_assign rfl) ?_
      refine TL_nil ?_
      refine T_keepH [2] [] rfl rfl rfl rfl (by rw [hF]; rfl) ?_
      refine T_ret ?_
      obtain rfl := someI hm
      refine ⟨[_], [], ⟨rfl, trivial⟩, ?_, rfl, rfl, rfl, rfl⟩
      rfl
  · replace hm := condF hq hm
    refine TL_pass rfl rfl rfl rfl rfl rfl rfl ?_
    refine TL_pass rfl rfl rfl rfl rfl rfl rfl ?_
    refine TL_pass rfl rfl rfl rfl rfl rfl rfl ?_
    refine TL_pure rfl rfl rfl rfl (op_pick_false rfl rfl) ?_
    refine TL_pure rfl rfl rfl rfl (op_move rfl) ?_
    refine TL_pass rfl rfl rfl rfl rfl rfl rfl ?_
    refine TL_pass rfl rfl rfl rfl rfl rfl rfl ?_
    refine TL_pass rfl rfl rfl rfl rfl rfl rfl ?_
    refine TL_pure rfl rfl rfl rfl (op_pick_false rfl rfl) ?_
    refine TL_pure rfl rfl rfl rfl (op_move rfl) ?_
    refine TL_pass rfl rfl rfl rfl rfl rfl rfl ?_
    refine TL_pass rfl rfl rfl rfl rfl rfl rfl ?_
    refine TL_pass rfl rfl rfl rfl rfl rfl rfl ?_
    refine TL_pass2 rfl rfl rfl rfl rfl rfl ?_
    refine TL_pass2 rfl rfl rfl rfl rfl rfl ?_
    refine TL_pass2 rfl rfl rfl rfl rfl rfl ?_
    refine TL_pass2 rfl rfl rfl rfl rfl rfl ?_
    refine TL_pass2 rfl rfl rfl rfl rfl rfl ?_
    refine TL_pass2 rfl rfl rfl rfl rfl rfl ?_
    refine TL_pass2 rfl rfl rfl rfl rfl rfl ?_
    refine TL_pass rfl rfl rfl rfl rfl rfl rfl ?_
    refine TL_pure rfl rfl rfl rfl (op_pick_false rfl rfl) ?_
    refine TL_pure rfl rfl rfl rfl (op_assign rfl) ?_
    refine TL_nil ?_
    refine T_keepH [2] [] rfl rfl rfl rfl (by rw [hF]; rfl) ?_
    refine T_ret ?_
    obtain rfl := someI hm
    refine ⟨[_], [], ⟨rfl, trivial⟩, ?_, rfl, rfl, rfl, rfl⟩
    rfl
theorem c_impl_isOver (p0 : Term) (out : Bool) (hm : m_impl_isOver p0 = some out) : ACall Try.prog 180 [.agg [.int .i64 p0.Const, .sl 1 (List.map a_i64 p0.Coeffs)]] [] (.bool out) [] := by
  refine ACall.intro Try.func180 rfl Try.ntmps180 rfl (fun F hF => ?_)
  unfold m_impl_isOver at hm
  refine T_seq ?_
  refine T_region ?_
  refine TL_box 11 rfl rfl rfl rfl rfl rfl rfl ?_
  refine TL_pure rfl rfl rfl rfl (op_assign rfl) ?_
  refine TL_nil ?_
  refine T_seq ?_
  refine T_region ?_
  refine TL_pure rfl rfl rfl rfl (op_load_agg ag184 sz184 rfl rfl rfl) ?_
  obtain ⟨r4, hr4, hm⟩ := bindS hm
  refine TL_callF (ACall.F (F := F) (c_impl_ValidTerm p0 r4 hr4)) Try.call190 rfl rfl rfl rfl rfl ?_
  refine TL_pure rfl rfl rfl rfl (op_move rfl) ?_
  refine TL_join 5 (fun _ : Unit => ⟨[(10, .bool (r4 && (decide ((p0.Coeffs.length : Int) ≤ (4 : Int)))))], []⟩) (fun _ => True) (fun _ _ => ?_) (fun hjj => ?_)
  · refine TL_pure rfl rfl rfl rfl (op_assign rfl) ?_
    refine TL_nil ?_
    refine T_keepH [2] [] rfl rfl rfl rfl (by rw [hF]; rfl) ?_
    refine T_ret ?_
    obtain rfl := someI hm
    refine ⟨[_], [], ⟨rfl, trivial⟩, ?_, rfl, rfl, rfl, rfl⟩
    rfl
  · refine TL_split 5 rfl rfl rfl (fun hq => ?_) (fun hq => ?_)
    · refine TL_want rfl rfl ?_
      refine TL_pure rfl rfl rfl rfl (op_fieldAddr fa184_1 rfl rfl) ?_
      refine TL_want rfl rfl ?_
      refine TL_pure rfl rfl rfl rfl (op_load_one ag26 rfl rfl) ?_
      refine TL_want rfl rfl ?_
      refine TL_pure rfl rfl rfl rfl (op_lenT Try.underlying26 rfl (List.length_map _)) ?_
      refine TL_fact (fun _ _ _ hr => RelP.slLen (i := 7) rfl hr) (fun hlen8 => ?_)
      rw [List.length_map] at hlen8
      refine TL_want rfl rfl ?_
      refine TL_pure rfl rfl rfl rfl (op_leq rfl rfl) ?_
      refine TL_pure rfl rfl rfl rfl (op_pick_true rfl rfl) ?_
      refine TL_keepH [10] [] rfl rfl rfl rfl (by rw [hF]; rfl) ?_
      exact TL_cast _ (by first | (rw [hq, Bool.true_and]; done) | (rw [hq]; rfl)) (hjj () trivial)
    · refine TL_pass rfl rfl rfl rfl rfl rfl rfl ?_
      refine TL_pass rfl rfl rfl rfl rfl rfl rfl ?_
      refine TL_pass rfl rfl rfl rfl rfl rfl rfl ?_
      refine TL_pass rfl rfl rfl rfl rfl rfl rfl ?_
      refine TL_pure rfl rfl rfl rfl (op_pick_false rfl rfl) ?_
      refine TL_keepH [10] [] rfl rfl rfl rfl (by rw [hF]; rfl) ?_
      exact TL_cast _ (by first | (rw [hq, Bool.false_and]; done) | (rw [hq]; rfl)) (hjj () trivial)
theorem c_impl_areOver_1 (p0 : Term) (out : Bool) (hm : m_impl_areOver_1 p0 = some out) : ACall Try.prog 179 [.agg [.int .i64 p0.Const, .sl 1 (List.map a_i64 p0.Coeffs)]] [] (.bool out) [] := by
  refine ACall.intro Try.func179 rfl Try.ntmps179 rfl (fun F hF => ?_)
  unfold m_impl_areOver_1 at hm
  refine T_seq ?_
  refine T_region ?_
  refine TL_box 11 rfl rfl rfl rfl rfl rfl rfl ?_
  refine TL_pure rfl rfl rfl rfl (op_assign rfl) ?_
  refine TL_nil ?_
  refine T_seq ?_
  refine T_region ?_
  refine TL_pure rfl rfl rfl rfl (op_load_agg ag184 sz184 rfl rfl rfl) ?_
  obtain ⟨r4, hr4, hm⟩ := bindS hm
  refine TL_callF (ACall.F (F := F) (c_impl_isOver p0 r4 hr4)) Try.call180 rfl rfl rfl rfl rfl ?_
  refine TL_pure rfl rfl rfl rfl (op_not rfl) ?_
  refine TL_pure rfl rfl rfl rfl (op_assign rfl) ?_
  refine TL_nil ?_
  refine T_keepH [2] [] rfl rfl rfl rfl (by rw [hF]; rfl) ?_
  refine T_ret ?_
  obtain rfl := someI hm
  refine ⟨[_], [], ⟨rfl, trivial⟩, ?_, rfl, rfl, rfl, rfl⟩
  rfl
theorem c_slices_IndexFunc_impl_Term_impl_Term_fareOver_1 (p0 : List Term) (out : Int) (hm : m_slices_IndexFunc_impl_Term_impl_Term_fareOver_1 p0 = some out) : ACall Try.prog 189 [.sl 2 (List.map a_Term p0), .fn (.func 179) [] []] [] (.int .i64 out) [] := by
  refine ACall.intro Try.func189 rfl Try.ntmps189 rfl (fun F hF => ?_)
  unfold m_slices_IndexFunc_impl_Term_impl_Term_fareOver_1 at hm
  refine T_seq ?_
  refine T_region ?_
  refine TL_pure rfl rfl rfl rfl (op_assign rfl) ?_
  refine TL_nil ?_
  refine T_seq ?_
  refine T_seq ?_
  refine T_region ?_
  refine TL_pure rfl rfl rfl rfl (op_move rfl) ?_
  refine TL_pure rfl rfl rfl rfl (op_lenT Try.underlying66 rfl (List.length_map _)) ?_
  refine TL_fact (fun _ _ _ hr => RelP.slLen (i := 6) rfl hr) (fun hlen7 => ?_)
  rw [List.length_map] at hlen7
  refine TL_pure rfl rfl rfl rfl (op_move rfl) ?_
  refine TL_nil ?_
  refine T_block ?_
  refine T_keepH [0, 1, 7, 8] [] rfl rfl rfl rfl (by rw [hF]; rfl) ?_
  refine T_loop ?_
  obtain ⟨u0, hl0, hm⟩ := bindS hm
  refine TR_forL2 p0 (m_slices_IndexFunc_impl_Term_impl_Term_fareOver_1_L0) (fun (s0 : Unit) => (.inl ())) (fun n0 (s0 : Unit) => ⟨[(0, .sl 2 (List.map a_Term p0)), (1, .fn (.func 179) [] []), (7, .int .i64 (p0.length : Int)), (8, .int .i64 (n0 : Int))], []⟩) (fun u0 => match u0 with | .inl u0 => .exit 0 | .inr u0 => .ret) (fun u0 => match u0 with | .inl u0 => ⟨[], []⟩ | .inr u0 => ⟨[(4, .int .i64 u0)], []⟩) (fun u0 => m_slices_IndexFunc_impl_Term_impl_Term_fareOver_1_A0 u0 = some out) hl0 hm (fun u0 hm => ?_) (fun hx0 s0 hm => ?_) (fun hx0 n0 x0 s0 c0 hxn0 hlt0 hm hc0 => ?_)
  · rcases u0 with u0 | u0
    · unfold m_slices_IndexFunc_impl_Term_impl_Term_fareOver_1_A0 at hm
      refine T_seq ?_
      refine T_region ?_
      refine TL_pure rfl rfl rfl rfl (op_assign rfl) ?_
      refine TL_nil ?_
      refine T_keepH [4] [] rfl rfl rfl rfl (by rw [hF]; rfl) ?_
      refine T_ret ?_
      obtain rfl := someI hm
      refine ⟨[_], [], ⟨rfl, trivial⟩, ?_, rfl, rfl, rfl, rfl⟩
      rfl
    · unfold m_slices_IndexFunc_impl_Term_impl_Term_fareOver_1_A0 at hm
      obtain rfl := someI hm
      refine ⟨[_], [], ⟨rfl, trivial⟩, ?_, rfl, rfl, rfl, rfl⟩
      rfl
  · refine T_seq ?_
    refine T_region ?_
    refine TL_pure rfl rfl rfl rfl (op_lss rfl rfl) ?_
    refine TL_nil ?_
    refine T_seq ?_
    refine T_if_false rfl (decide_eq_false (by simp)) ?_
    refine T_keepH [] [] rfl rfl rfl rfl (by rw [hF]; rfl) ?_
    refine T_exit ?_
    exact hx0 (.inl ()) hm
  · unfold m_slices_IndexFunc_impl_Term_impl_Term_fareOver_1_L0 at hm
    refine T_seq ?_
    refine T_region ?_
    refine TL_pure rfl rfl rfl rfl (op_lss rfl rfl) ?_
    refine TL_nil ?_
    refine T_seq ?_
    refine T_if_true rfl (decide_eq_true (Int.ofNat_lt.2 hlt0)) ?_
    refine T_skip ?_
    refine T_seq ?_
    refine T_block ?_
    refine T_seq ?_
    refine T_region ?_
    refine TL_pure rfl rfl rfl rfl (op_move rfl) ?_
    refine TL_pure rfl rfl rfl rfl (op_assign rfl) ?_
    refine TL_nil ?_
    refine T_seq ?_
    refine T_region ?_
    refine TL_pure rfl rfl rfl rfl (op_move rfl) ?_
    refine TL_pure rfl rfl rfl rfl (op_move rfl) ?_
    refine TL_pure rfl rfl rfl rfl (op_move rfl) ?_
    refine TL_pure rfl rfl rfl rfl (op_index_sl el66 rfl rfl rfl (get_map hxn0) rfl) ?_
    refine TL_pure rfl rfl rfl rfl (op_load_agg ag184 sz184 rfl rfl rfl) ?_
    obtain ⟨r16, hr16, hm⟩ := bindS hm
    refine TL_callV rfl (ACall.F (F := F) (c_impl_areOver_1 x0 r16 hr16)) Try.call179 rfl rfl rfl rfl rfl ?_
    refine TL_nil ?_
    refine T_cond rfl (fun hq => ?_) (fun hq => ?_)
    · replace hm := condT hq hm
      refine T_seq ?_
      refine T_region ?_
      refine TL_pure rfl rfl rfl rfl (op_move rfl) ?_
      refine TL_pure rfl rfl rfl rfl (op_assign rfl) ?_
      refine TL_nil ?_
      refine T_keepH [4] [] rfl rfl rfl rfl (by rw [hF]; rfl) ?_
      refine T_ret ?_
      obtain rfl := someI hm
      have hn := CtlOK_out hc0
      exact hx0 (.inr (n0 : Int)) hn
    · replace hm := condF hq hm
      refine T_skip ?_
      refine T_region ?_
      refine TL_pure rfl rfl rfl rfl (op_addN rfl rfl (Nat.lt_of_lt_of_le hlt0 hlen7)) ?_
      refine TL_pure rfl rfl rfl rfl (op_move rfl) ?_
      refine TL_nil ?_
      refine TR_keepH [0, 1, 7, 8] [] rfl rfl rfl rfl (by rw [hF]; rfl) ?_
      obtain rfl := someI hm
      have hn := CtlOK_next hc0
      exact hn _ rfl
theorem c_slices_ContainsFunc_impl_Term_impl_Term_fareOver_1 (p0 : List Term) (out : Bool) (hm : m_slices_ContainsFunc_impl_Term_impl_Term_fareOver_1 p0 = some out) : ACall Try.prog 178 [.sl 2 (List.map a_Term p0), .fn (.func 179) [] []] [] (.bool out) [] := by
  refine ACall.intro Try.func178 rfl Try.ntmps178 rfl (fun F hF => ?_)
  unfold m_slices_ContainsFunc_impl_Term_impl_Term_fareOver_1 at hm
  refine T_seq ?_
  refine T_region ?_
  refine TL_pure rfl rfl rfl rfl (op_assign rfl) ?_
  refine TL_nil ?_
  refine T_seq ?_
  refine T_region ?_
  refine TL_pure rfl rfl rfl rfl (op_move rfl) ?_
  refine TL_pure rfl rfl rfl rfl (op_move rfl) ?_
  obtain ⟨r7, hr7, hm⟩ := bindS hm
  refine TL_callF (ACall.F (F := F) (c_slices_IndexFunc_impl_Term_impl_Term_fareOver_1 p0 r7 hr7)) Try.call189 rfl rfl rfl rfl rfl ?_
  refine TL_pure rfl rfl rfl rfl (op_geq rfl rfl) ?_
  refine TL_pure rfl rfl rfl rfl (op_assign rfl) ?_
  refine TL_nil ?_
  refine T_keepH [4] [] rfl rfl rfl rfl (by rw [hF]; rfl) ?_
  refine T_ret ?_
  obtain rfl := someI hm
  refine ⟨[_], [], ⟨rfl, trivial⟩, ?_, rfl, rfl, rfl, rfl⟩
  rfl
theorem c_impl_areOver (p0 : List Term) (p1 : Int) (out : Bool) (hm : m_impl_areOver p0 p1 = some out) : ACall Try.prog 149 [.sl 2 (List.map a_Term p0), .int .i64 p1] [] (.bool out) [] := by
  refine ACall.intro Try.func149 rfl Try.ntmps149 rfl (fun F hF => ?_)
  unfold m_impl_areOver at hm
  refine T_seq ?_
  refine T_region ?_
  refine TL_pure rfl rfl rfl rfl (op_assign rfl) ?_
  refine TL_nil ?_
  refine T_seq ?_
  refine T_region ?_
  refine TL_pure rfl rfl rfl rfl (op_move rfl) ?_
  refine TL_pure rfl rfl rfl rfl (op_lenT Try.underlying66 rfl (List.length_map _)) ?_
  refine TL_fact (fun _ _ _ hr => RelP.slLen (i := 5) rfl hr) (fun hlen6 => ?_)
  rw [List.length_map] at hlen6
  refine TL_pure rfl rfl rfl rfl (op_move rfl) ?_
  refine TL_pure rfl rfl rfl rfl (op_leq rfl rfl) ?_
  refine TL_pure rfl rfl rfl rfl (op_move rfl) ?_
  refine TL_split 9 rfl rfl rfl (fun hq => ?_) (fun hq => ?_)
  · replace hm := condT hq hm
    refine TL_want rfl rfl ?_
    refine TL_pure rfl rfl rfl rfl (op_move rfl) ?_
    refine TL_want rfl rfl ?_
    obtain ⟨r11, hr11, hm⟩ := bindS hm
    refine TL_callF (ACall.F (F := F) (c_slices_ContainsFunc_impl_Term_impl_Term_fareOver_1 p0 r11 hr11)) Try.call178 rfl rfl rfl rfl rfl ?_
    refine TL_want rfl rfl ?_
    refine TL_pure rfl rfl rfl rfl (op_not rfl) ?_
    refine TL_pure rfl rfl rfl rfl (op_pick_true rfl rfl) ?_
    refine TL_pure rfl rfl rfl rfl (op_assign rfl) ?_
    refine TL_nil ?_
    refine T_keepH [4] [] rfl rfl rfl rfl (by rw [hF]; rfl) ?_
    refine T_ret ?_
    obtain rfl := someI hm
    refine ⟨[_], [], ⟨rfl, trivial⟩, ?_, rfl, rfl, rfl, rfl⟩
    rfl
  · replace hm := condF hq hm
    refine TL_pass rfl rfl rfl rfl rfl rfl rfl ?_
    refine TL_pass rfl rfl rfl rfl rfl rfl rfl ?_
    refine TL_pass rfl rfl rfl rfl rfl rfl rfl ?_
    refine TL_pure rfl rfl rfl rfl (op_pick_false rfl rfl) ?_
    refine TL_pure rfl rfl rfl rfl (op_assign rfl) ?_
    refine TL_nil ?_
    refine T_keepH [4] [] rfl rfl rfl rfl (by rw [hF]; rfl) ?_
    refine T_ret ?_
    obtain rfl := someI hm
    refine ⟨[_], [], ⟨rfl, trivial⟩, ?_, rfl, rfl, rfl, rfl⟩
    rfl
theorem c_impl_isIndex (p0 : Int) (p1 : Int) (out : Bool) (hm : m_impl_isIndex p0 p1 = some out) : ACall Try.prog 92 [.int .i64 p0, .int .i64 p1] [] (.bool out) [] := by
  refine ACall.intro Try.func92 rfl Try.ntmps92 rfl (fun F hF => ?_)
  unfold m_impl_isIndex at hm
  refine T_seq ?_
  refine T_region ?_
  refine TL_pure rfl rfl rfl rfl (op_assign rfl) ?_
  refine TL_nil ?_
  refine T_seq ?_
  refine T_region ?_
  refine TL_pure rfl rfl rfl rfl (op_move rfl) ?_
  refine TL_pure rfl rfl rfl rfl (op_move rfl) ?_
  obtain ⟨r7, hr7, hm⟩ := bindS hm
  refine TL_callF (ACall.F (F := F) (c_impl_size p1 r7 hr7)) Try.call129 rfl rfl rfl rfl rfl ?_
  refine TL_pure rfl rfl rfl rfl (op_subW rfl rfl) ?_
  obtain ⟨r9, hr9, hm⟩ := bindS hm
  refine TL_callF (ACall.F (F := F) (c_impl_within p0 (0 : Int) (w64 (r7 - (1 : Int))) r9 hr9)) Try.call72 rfl rfl rfl rfl rfl ?_
  refine TL_pure rfl rfl rfl rfl (op_assign rfl) ?_
  refine TL_nil ?_
  refine T_keepH [4] [] rfl rfl rfl rfl (by rw [hF]; rfl) ?_
  refine T_ret ?_
  obtain rfl := someI hm
  refine ⟨[_], [], ⟨rfl, trivial⟩, ?_, rfl, rfl, rfl, rfl⟩
  rfl
theorem c_impl_ValidAnnotated (p0 : Annotated) (out : Bool) (hm : m_impl_ValidAnnotated p0 = some out) : ACall Try.prog 89 [.agg [.sl 2 (List.map a_Term p0.Pre), .sl 2 (List.map a_Term p0.Post), .sl 2 (List.map a_Instr p0.Code), .sl 2 (List.map a_Point p0.Points)]] [] (.bool out) [] := by
  refine ACall.intro Try.func89 rfl Try.ntmps89 rfl (fun F hF => ?_)
  unfold m_impl_ValidAnnotated at hm
  refine T_seq ?_
  refine T_region ?_
  refine TL_box 11 rfl rfl rfl rfl rfl rfl rfl ?_
  refine TL_pure rfl rfl rfl rfl (op_assign rfl) ?_
  refine TL_nil ?_
  refine T_seq ?_
  refine T_seq ?_
  refine T_region ?_
  refine TL_pure rfl rfl rfl rfl (op_fieldAddr fa69_2 rfl rfl) ?_
  refine TL_pure rfl rfl rfl rfl (op_load_one ag24 rfl rfl) ?_
  obtain ⟨r7, hr7, hm⟩ := bindS hm
  refine TL_callF (ACall.F (F := F) (c_impl_ValidCode p0.Code r7 hr7)) Try.call69 rfl rfl rfl rfl rfl ?_
  refine TL_pure rfl rfl rfl rfl (op_not rfl) ?_
  refine TL_pure rfl rfl rfl rfl (op_move rfl) ?_
  refine TL_split 9 rfl rfl rfl (fun hq => ?_) (fun hq => ?_)
  · replace hm := condT hq hm
    refine TL_pass rfl rfl rfl rfl rfl rfl rfl ?_
    refine TL_pass rfl rfl rfl rfl rfl rfl rfl ?_
    refine TL_pass rfl rfl rfl rfl rfl rfl rfl ?_
    refine TL_pass rfl rfl rfl rfl rfl rfl rfl ?_
    refine TL_pure rfl rfl rfl rfl (op_pick_true rfl rfl) ?_
    refine TL_pure rfl rfl rfl rfl (op_move rfl) ?_
    refine TL_pass rfl rfl rfl rfl rfl rfl rfl ?_
    refine TL_pass rfl rfl rfl rfl rfl rfl rfl ?_
    refine TL_pass rfl rfl rfl rfl rfl rfl rfl ?_
    refine TL_pass rfl rfl rfl rfl rfl rfl rfl ?_
    refine TL_pure rfl rfl rfl rfl (op_pick_true rfl rfl) ?_
    refine TL_pure rfl rfl rfl rfl (op_move rfl) ?_
    refine TL_pass rfl rfl rfl rfl rfl rfl rfl ?_
    refine TL_pass rfl rfl rfl rfl rfl rfl rfl ?_
    refine TL_pass rfl rfl rfl rfl rfl rfl rfl ?_
    refine TL_pass rfl rfl rfl rfl rfl rfl rfl ?_
    refine TL_pure rfl rfl rfl rfl (op_pick_true rfl rfl) ?_
    refine TL_nil ?_
    refine T_cond_true rfl ?_
    refine T_seq ?_
    refine T_region ?_
    refine TL_pure rfl rfl rfl rfl (op_assign rfl) ?_
    refine TL_nil ?_
    refine T_keepH [2] [] rfl rfl rfl rfl (by rw [hF]; rfl) ?_
    refine T_ret ?_
    obtain rfl := someI hm
    refine ⟨[_], [], ⟨rfl, trivial⟩, ?_, rfl, rfl, rfl, rfl⟩
    rfl
  · replace hm := condF hq hm
    refine TL_want rfl rfl ?_
    refine TL_pure rfl rfl rfl rfl (op_fieldAddr fa69_0 rfl rfl) ?_
    refine TL_want rfl rfl ?_
    refine TL_pure rfl rfl rfl rfl (op_load_one ag66 rfl rfl) ?_
    refine TL_want rfl rfl ?_
    obtain ⟨r12, hr12, hm⟩ := bindS hm
    refine TL_callF (ACall.F (F := F) (c_impl_areOver p0.Pre (6 : Int) r12 hr12)) Try.call149 rfl rfl rfl rfl rfl ?_
    refine TL_want rfl rfl ?_
    refine TL_pure rfl rfl rfl rfl (op_not rfl) ?_
    refine TL_pure rfl rfl rfl rfl (op_pick_false rfl rfl) ?_
    refine TL_pure rfl rfl rfl rfl (op_move rfl) ?_
    refine TL_split 15 rfl rfl rfl (fun hq => ?_) (fun hq => ?_)
    · replace hm := condT hq hm
      refine TL_pass rfl rfl rfl rfl rfl rfl rfl ?_
      refine TL_pass rfl rfl rfl rfl rfl rfl rfl ?_
      refine TL_pass rfl rfl rfl rfl rfl rfl rfl ?_
      refine TL_pass rfl rfl rfl rfl rfl rfl rfl ?_
      refine TL_pure rfl rfl rfl rfl (op_pick_true rfl rfl) ?_
      refine TL_pure rfl rfl rfl rfl (op_move rfl) ?_
      refine TL_pass rfl rfl rfl rfl rfl rfl rfl ?_
      refine TL_pass rfl rfl rfl rfl rfl rfl rfl ?_
      refine TL_pass rfl rfl rfl rfl rfl rfl rfl ?_
      refine TL_pass rfl rfl rfl rfl rfl rfl rfl ?_
      refine TL_pure rfl rfl rfl rfl (op_pick_true rfl rfl) ?_
      refine TL_nil ?_
      refine T_cond_true rfl ?_
      refine T_seq ?_
      refine T_region ?_
      refine TL_pure rfl rfl rfl rfl (op_assign rfl) ?_
      refine TL_nil ?_
      refine T_keepH [2] [] rfl rfl rfl rfl (by rw [hF]; rfl) ?_
      refine T_ret ?_
      obtain rfl := someI hm
      refine ⟨[_], [], ⟨rfl, trivial⟩, ?_, rfl, rfl, rfl, rfl⟩
      rfl
    · replace hm := condF hq hm
      refine TL_want rfl rfl ?_
      refine TL_pure rfl rfl rfl rfl (op_fieldAddr fa69_1 rfl rfl) ?_
      refine TL_want rfl rfl ?_
      refine TL_pure rfl rfl rfl rfl (op_load_one ag66 rfl rfl) ?_
      refine TL_want rfl rfl ?_
      obtain ⟨r18, hr18, hm⟩ := bindS hm
      refine TL_callF (ACall.F (F := F) (c_impl_areOver p0.Post (6 : Int) r18 hr18)) Try.call149 rfl rfl rfl rfl rfl ?_
      refine TL_want rfl rfl ?_
      refine TL_pure rfl rfl rfl rfl (op_not rfl) ?_
      refine TL_pure rfl rfl rfl rfl (op_pick_false rfl rfl) ?_
      refine TL_pure rfl rfl rfl rfl (op_move rfl) ?_
      refine TL_join 5 (fun _ : Unit => ⟨[(1, .ptr 11 0 0), (26, .bool ((!r18) || (decide ((8 : Int) < (p0.Points.length : Int)))))], [(11, .box [.sl 2 (List.map a_Term p0.Pre), .sl 2 (List.map a_Term p0.Post), .sl 2 (List.map a_Instr p0.Code), .sl 2 (List.map a_Point p0.Points)])]⟩) (fun _ => True) (fun _ _ => ?_) (fun hjj => ?_)
      · refine TL_nil ?_
        refine T_cond rfl (fun hq => ?_) (fun hq => ?_)
        · replace hm := condT hq hm
          refine T_seq ?_
          refine T_region ?_
          refine TL_pure rfl rfl rfl rfl (op_assign rfl) ?_
          refine TL_nil ?_
          refine T_keepH [2] [] rfl rfl rfl rfl (by rw [hF]; rfl) ?_
          refine T_ret ?_
          obtain rfl := someI hm
          refine ⟨[_], [], ⟨rfl, trivial⟩, ?_, rfl, rfl, rfl, rfl⟩
          rfl
        · replace hm := condF hq hm
          refine T_skip ?_
          refine T_seq ?_
          refine T_seq ?_
          refine T_region ?_
          refine TL_pure rfl rfl rfl rfl (op_fieldAddr fa69_3 rfl rfl) ?_
          refine TL_pure rfl rfl rfl rfl (op_load_one ag67 rfl rfl) ?_
          refine TL_pure rfl rfl rfl rfl (op_lenT Try.underlying67 rfl (List.length_map _)) ?_
          refine TL_fact (fun _ _ _ hr => RelP.slLen (i := 28) rfl hr) (fun hlen29 => ?_)
          rw [List.length_map] at hlen29
          refine TL_pure rfl rfl rfl rfl (op_move rfl) ?_
          refine TL_nil ?_
          refine T_block ?_
          refine T_keepH [1, 28, 29, 30] [11] rfl rfl rfl rfl (by rw [hF]; rfl) ?_
          refine T_loop ?_
          obtain ⟨u0, hl0, hm⟩ := bindS hm
          refine TR_forL2 p0.Points (m_impl_ValidAnnotated_L0 p0) (fun (s0 : Unit) => (.inl ())) (fun n0 (s0 : Unit) => ⟨[(1, .ptr 11 0 0), (28, .sl 2 (List.map a_Point p0.Points)), (29, .int .i64 (p0.Points.length : Int)), (30, .int .i64 (n0 : Int))], [(11, .box [.sl 2 (List.map a_Term p0.Pre), .sl 2 (List.map a_Term p0.Post), .sl 2 (List.map a_Instr p0.Code), .sl 2 (List.map a_Point p0.Points)])]⟩) (fun u0 => match u0 with | .inl u0 => .exit 0 | .inr u0 => .ret) (fun u0 => match u0 with | .inl u0 => ⟨[], []⟩ | .inr u0 => ⟨[(2, .bool u0)], []⟩) (fun u0 => m_impl_ValidAnnotated_A0 u0 = some out) hl0 hm (fun u0 hm => ?_) (fun hx0 s0 hm => ?_) (fun hx0 n0 x0 s0 c0 hxn0 hlt0 hm hc0 => ?_)
          · rcases u0 with u0 | u0
            · unfold m_impl_ValidAnnotated_A0 at hm
              refine T_seq ?_
              refine T_region ?_
              refine TL_pure rfl rfl rfl rfl (op_assign rfl) ?_
              refine TL_nil ?_
              refine T_keepH [2] [] rfl rfl rfl rfl (by rw [hF]; rfl) ?_
              refine T_ret ?_
              obtain rfl := someI hm
              refine ⟨[_], [], ⟨rfl, trivial⟩, ?_, rfl, rfl, rfl, rfl⟩
              rfl
            · unfold m_impl_ValidAnnotated_A0 at hm
              obtain rfl := someI hm
              refine ⟨[_], [], ⟨rfl, trivial⟩, ?_, rfl, rfl, rfl, rfl⟩
              rfl
          · refine T_seq ?_
            refine T_region ?_
            refine TL_pure rfl rfl rfl rfl (op_lss rfl rfl) ?_
            refine TL_nil ?_
            refine T_seq ?_
            refine T_if_false rfl (decide_eq_false (by simp)) ?_
            refine T_keepH [] [] rfl rfl rfl rfl (by rw [hF]; rfl) ?_
            refine T_exit ?_
            exact hx0 (.inl ()) hm
          · unfold m_impl_ValidAnnotated_L0 at hm
            refine T_seq ?_
            refine T_region ?_
            refine TL_pure rfl rfl rfl rfl (op_lss rfl rfl) ?_
            refine TL_nil ?_
            refine T_seq ?_
            refine T_if_true rfl (decide_eq_true (Int.ofNat_lt.2 hlt0)) ?_
            refine T_skip ?_
            refine T_seq ?_
            refine T_block ?_
            refine T_seq ?_
            refine T_region ?_
            refine TL_pure rfl rfl rfl rfl (op_move rfl) ?_
            refine TL_pure rfl rfl rfl rfl (op_index_sl el67 rfl rfl rfl (get_map hxn0) rfl) ?_
            refine TL_pure rfl rfl rfl rfl (op_load_agg ag81 sz81 rfl rfl rfl) ?_
            refine TL_alloc 13 z81 rfl rfl rfl rfl rfl rfl rfl ?_
            refine TL_pure rfl rfl rfl rfl (op_assign rfl) ?_
            refine TL_store_box sz81 rfl rfl rfl rfl rfl rfl rfl rfl rfl ?_
            refine TL_nil ?_
            refine T_seq ?_
            refine T_drawZ [] mix (by kernel_rfl) rfl ?_
            obtain ⟨r37, hr37, hm⟩ := bindS hm
            refine TZ_pure 0 (by kernel_rfl) rfl rfl rfl rfl rfl (op_fieldAddr fa81_1 rfl rfl) ?_
            refine TZ_pure 1 (by kernel_rfl) rfl rfl rfl rfl rfl (op_load_one ag66 rfl rfl) ?_
            refine TZ_one 2 (by kernel_rfl) rfl ?_
            refine TL_callF (ACall.F (F := F) (c_impl_areOver x0.Facts (6 : Int) r37 hr37)) Try.call149 rfl rfl rfl rfl rfl ?_
            refine TL_nil ?_
            refine TZ_pure 3 (by kernel_rfl) rfl rfl rfl rfl rfl (op_not rfl) ?_
            refine TZ_pure 4 (by kernel_rfl) rfl rfl rfl rfl rfl (op_move rfl) ?_
            refine TZ_split 39 rfl rfl rfl (fun hq => ?_) (fun hq => ?_)
            · replace hm := condT hq hm
              refine TZ_pass 5 (by kernel_rfl) rfl rfl rfl rfl rfl rfl rfl rfl ?_
              refine TZ_pass 6 (by kernel_rfl) rfl rfl rfl rfl rfl rfl rfl rfl ?_
              refine TZ_pass 7 (by kernel_rfl) rfl rfl rfl rfl rfl rfl rfl rfl ?_
              refine TZ_pass 8 (by kernel_rfl) rfl rfl rfl rfl rfl rfl rfl rfl ?_
              refine TZ_pass 9 (by kernel_rfl) rfl rfl rfl rfl rfl rfl rfl rfl ?_
              refine TZ_one 10 (by kernel_rfl) rfl ?_
              refine TL_pass rfl rfl rfl rfl rfl rfl rfl ?_
              refine TL_nil ?_
              refine TZ_pass 11 (by kernel_rfl) rfl rfl rfl rfl rfl rfl rfl rfl ?_
              refine TZ_pure 12 (by kernel_rfl) rfl rfl rfl rfl rfl (op_pick_true rfl rfl) ?_
              refine TZ_pure 13 (by kernel_rfl) rfl rfl rfl rfl rfl (op_move rfl) ?_
              refine TZ_pass 14 (by kernel_rfl) rfl rfl rfl rfl rfl rfl rfl rfl ?_
              refine TZ_pass 15 (by kernel_rfl) rfl rfl rfl rfl rfl rfl rfl rfl ?_
              refine TZ_pass 16 (by kernel_rfl) rfl rfl rfl rfl rfl rfl rfl rfl ?_
              refine TZ_pass2 17 (by kernel_rfl) rfl rfl rfl rfl rfl rfl rfl ?_
              refine TZ_pass2 18 (by kernel_rfl) rfl rfl rfl rfl rfl rfl rfl ?_
              refine TZ_pass2 19 (by kernel_rfl) rfl rfl rfl rfl rfl rfl rfl ?_
              refine TZ_pass2 20 (by kernel_rfl) rfl rfl rfl rfl rfl rfl rfl ?_
              refine TZ_pass2 21 (by kernel_rfl) rfl rfl rfl rfl rfl rfl rfl ?_
              refine TZ_pass2 22 (by kernel_rfl) rfl rfl rfl rfl rfl rfl rfl ?_
              refine TZ_pass2 23 (by kernel_rfl) rfl rfl rfl rfl rfl rfl rfl ?_
              refine TZ_pass2 24 (by kernel_rfl) rfl rfl rfl rfl rfl rfl rfl ?_
              refine TZ_pass2 25 (by kernel_rfl) rfl rfl rfl rfl rfl rfl rfl ?_
              refine TZ_pass2 26 (by kernel_rfl) rfl rfl rfl rfl rfl rfl rfl ?_
              refine TZ_pass 27 (by kernel_rfl) rfl rfl rfl rfl rfl rfl rfl rfl ?_
              refine TZ_pure 28 (by kernel_rfl) rfl rfl rfl rfl rfl (op_pick_true rfl rfl) ?_
              refine TZ_done (by kernel_rfl) ?_
              refine T_cond_true rfl ?_
              refine T_seq ?_
              refine T_region ?_
              refine TL_pure rfl rfl rfl rfl (op_assign rfl) ?_
              refine TL_nil ?_
              refine T_keepH [2] [] rfl rfl rfl rfl (by rw [hF]; rfl) ?_
              refine T_ret ?_
              obtain rfl := someI hm
              have hn := CtlOK_out hc0
              exact hx0 (.inr false) hn
            · replace hm := condF hq hm
              obtain ⟨r45, hr45, hm⟩ := bindS hm
              refine TZ_pureW 5 (by kernel_rfl) rfl rfl rfl rfl rfl rfl rfl (op_fieldAddr fa81_0 rfl rfl) ?_
              refine TZ_pureW 6 (by kernel_rfl) rfl rfl rfl rfl rfl rfl rfl (op_load_one ag2 rfl rfl) ?_
              refine TZ_pureW 7 (by kernel_rfl) rfl rfl rfl rfl rfl rfl rfl (op_fieldAddr fa69_2 rfl rfl) ?_
              refine TZ_pureW 8 (by kernel_rfl) rfl rfl rfl rfl rfl rfl rfl (op_load_one ag24 rfl rfl) ?_
              refine TZ_pureW 9 (by kernel_rfl) rfl rfl rfl rfl rfl rfl rfl (op_lenT Try.underlying24 rfl (List.length_map _)) ?_
              refine TZ_fact (fun _ _ _ hr => RelP.slLen (i := 43) rfl hr) (fun hlen44 => ?_)
              rw [List.length_map] at hlen44
              refine TZ_one 10 (by kernel_rfl) rfl ?_
              refine TL_want rfl rfl ?_
              refine TL_callF (ACall.F (F := F) (c_impl_isIndex x0.At (p0.Code.length : Int) r45 hr45)) Try.call92 rfl rfl rfl rfl rfl ?_
              refine TL_nil ?_
              refine TZ_pureW 11 (by kernel_rfl) rfl rfl rfl rfl rfl rfl rfl (op_not rfl) ?_
              refine TZ_pure 12 (by kernel_rfl) rfl rfl rfl rfl rfl (op_pick_false rfl rfl) ?_
              refine TZ_pure 13 (by kernel_rfl) rfl rfl rfl rfl rfl (op_move rfl) ?_
              refine TZ_split 48 rfl rfl rfl (fun hq => ?_) (fun hq => ?_)
              · replace hm := condT hq hm
                refine TZ_pass 14 (by kernel_rfl) rfl rfl rfl rfl rfl rfl rfl rfl ?_
                refine TZ_pass 15 (by kernel_rfl) rfl rfl rfl rfl rfl rfl rfl rfl ?_
                refine TZ_pass 16 (by kernel_rfl) rfl rfl rfl rfl rfl rfl rfl rfl ?_
                refine TZ_pass2 17 (by kernel_rfl) rfl rfl rfl rfl rfl rfl rfl ?_
                refine TZ_pass2 18 (by kernel_rfl) rfl rfl rfl rfl rfl rfl rfl ?_
                refine TZ_pass2 19 (by kernel_rfl) rfl rfl rfl rfl rfl rfl rfl ?_
                refine TZ_pass2 20 (by kernel_rfl) rfl rfl rfl rfl rfl rfl rfl ?_
                refine TZ_pass2 21 (by kernel_rfl) rfl rfl rfl rfl rfl rfl rfl ?_
                refine TZ_pass2 22 (by kernel_rfl) rfl rfl rfl rfl rfl rfl rfl ?_
                refine TZ_pass2 23 (by kernel_rfl) rfl rfl rfl rfl rfl rfl rfl ?_
                refine TZ_pass2 24 (by kernel_rfl) rfl rfl rfl rfl rfl rfl rfl ?_
                refine TZ_pass2 25 (by kernel_rfl) rfl rfl rfl rfl rfl rfl rfl ?_
                refine TZ_pass2 26 (by kernel_rfl) rfl rfl rfl rfl rfl rfl rfl ?_
                refine TZ_pass 27 (by kernel_rfl) rfl rfl rfl rfl rfl rfl rfl rfl ?_
                refine TZ_pure 28 (by kernel_rfl) rfl rfl rfl rfl rfl (op_pick_true rfl rfl) ?_
                refine TZ_done (by kernel_rfl) ?_
                refine T_cond_true rfl ?_
                refine T_seq ?_
                refine T_region ?_
                refine TL_pure rfl rfl rfl rfl (op_assign rfl) ?_
                refine TL_nil ?_
                refine T_keepH [2] [] rfl rfl rfl rfl (by rw [hF]; rfl) ?_
                refine T_ret ?_
                obtain rfl := someI hm
                have hn := CtlOK_out hc0
                exact hx0 (.inr false) hn
              · replace hm := condF hq hm
                refine TZ_pureW 14 (by kernel_rfl) rfl rfl rfl rfl rfl rfl rfl (op_move rfl) ?_
                refine TZ_pureW 15 (by kernel_rfl) rfl rfl rfl rfl rfl rfl rfl (op_gtr rfl rfl) ?_
                refine TZ_pureW 16 (by kernel_rfl) rfl rfl rfl rfl rfl rfl rfl (op_move rfl) ?_
                refine TZ_split 51 rfl rfl rfl (fun hq => ?_) (fun hq => ?_)
                · replace hm := condT hq hm
                  obtain ⟨x56, hx56, hm⟩ := bindS hm
                  refine TZ_pureW 17 (by kernel_rfl) rfl rfl rfl rfl rfl rfl rfl (op_fieldAddr fa69_3 rfl rfl) ?_
                  refine TZ_pureW 18 (by kernel_rfl) rfl rfl rfl rfl rfl rfl rfl (op_load_one ag67 rfl rfl) ?_
                  refine TZ_pureW 19 (by kernel_rfl) rfl rfl rfl rfl rfl rfl rfl (op_move rfl) ?_
                  refine TZ_pureW 20 (by kernel_rfl) rfl rfl rfl rfl rfl rfl rfl (op_subW rfl rfl) ?_
                  refine TZ_pureW 21 (by kernel_rfl) rfl rfl rfl rfl rfl rfl rfl (op_indexT el67 rfl rfl hx56 rfl) ?_
                  refine TZ_pureW 22 (by kernel_rfl) rfl rfl rfl rfl rfl rfl rfl (op_fieldAddrC (n := 1) fa81_0 rfl rfl rfl) ?_
                  refine TZ_pureW 23 (by kernel_rfl) rfl rfl rfl rfl rfl rfl rfl (op_load_one ag2 rfl rfl) ?_
                  refine TZ_pureW 24 (by kernel_rfl) rfl rfl rfl rfl rfl rfl rfl (op_fieldAddr fa81_0 rfl rfl) ?_
                  refine TZ_pureW 25 (by kernel_rfl) rfl rfl rfl rfl rfl rfl rfl (op_load_one ag2 rfl rfl) ?_
                  refine TZ_pureW 26 (by kernel_rfl) rfl rfl rfl rfl rfl rfl rfl (op_geq rfl rfl) ?_
                  refine TZ_pureW 27 (by kernel_rfl) rfl rfl rfl rfl rfl rfl rfl (op_pick_true rfl rfl) ?_
                  refine TZ_pure 28 (by kernel_rfl) rfl rfl rfl rfl rfl (op_pick_false rfl rfl) ?_
                  refine TZ_done (by kernel_rfl) ?_
                  refine T_cond rfl (fun hq => ?_) (fun hq => ?_)
                  · replace hm := condT hq hm
                    refine T_seq ?_
                    refine T_region ?_
                    refine TL_pure rfl rfl rfl rfl (op_assign rfl) ?_
                    refine TL_nil ?_
                    refine T_keepH [2] [] rfl rfl rfl rfl (by rw [hF]; rfl) ?_
                    refine T_ret ?_
                    obtain rfl := someI hm
                    have hn := CtlOK_out hc0
                    exact hx0 (.inr false) hn
                  · replace hm := condF hq hm
                    refine T_skip ?_
                    refine T_region ?_
                    refine TL_pure rfl rfl rfl rfl (op_addN rfl rfl (Nat.lt_of_lt_of_le hlt0 hlen29)) ?_
                    refine TL_pure rfl rfl rfl rfl (op_move rfl) ?_
                    refine TL_nil ?_
                    refine TR_keepH [1, 28, 29, 30] [11] rfl rfl rfl rfl (by rw [hF]; rfl) ?_
                    obtain rfl := someI hm
                    have hn := CtlOK_next hc0
                    exact hn _ rfl
                · replace hm := condF hq hm
                  refine TZ_pass 17 (by kernel_rfl) rfl rfl rfl rfl rfl rfl rfl rfl ?_
                  refine TZ_pass 18 (by kernel_rfl) rfl rfl rfl rfl rfl rfl rfl rfl ?_
                  refine TZ_pass 19 (by kernel_rfl) rfl rfl rfl rfl rfl rfl rfl rfl ?_
                  refine TZ_pass 20 (by kernel_rfl) rfl rfl rfl rfl rfl rfl rfl rfl ?_
                  refine TZ_pass 21 (by kernel_rfl) rfl rfl rfl rfl rfl rfl rfl rfl ?_
                  refine TZ_pass 22 (by kernel_rfl) rfl rfl rfl rfl rfl rfl rfl rfl ?_
                  refine TZ_pass 23 (by kernel_rfl) rfl rfl rfl rfl rfl rfl rfl rfl ?_
                  refine TZ_pass 24 (by kernel_rfl) rfl rfl rfl rfl rfl rfl rfl rfl ?_
                  refine TZ_pass 25 (by kernel_rfl) rfl rfl rfl rfl rfl rfl rfl rfl ?_
                  refine TZ_pass 26 (by kernel_rfl) rfl rfl rfl rfl rfl rfl rfl rfl ?_
                  refine TZ_pureW 27 (by kernel_rfl) rfl rfl rfl rfl rfl rfl rfl (op_pick_false rfl rfl) ?_
                  refine TZ_pure 28 (by kernel_rfl) rfl rfl rfl rfl rfl (op_pick_false rfl rfl) ?_
                  refine TZ_done (by kernel_rfl) ?_
                  refine T_cond_false rfl ?_
                  refine T_skip ?_
                  refine T_region ?_
                  refine TL_pure rfl rfl rfl rfl (op_addN rfl rfl (Nat.lt_of_lt_of_le hlt0 hlen29)) ?_
                  refine TL_pure rfl rfl rfl rfl (op_move rfl) ?_
                  refine TL_nil ?_
                  refine TR_keepH [1, 28, 29, 30] [11] rfl rfl rfl rfl (by rw [hF]; rfl) ?_
                  obtain rfl := someI hm
                  have hn := CtlOK_next hc0
                  exact hn _ rfl
      · refine TL_split 21 rfl rfl rfl (fun hq => ?_) (fun hq => ?_)
        · refine TL_pass rfl rfl rfl rfl rfl rfl rfl ?_
          refine TL_pass rfl rfl rfl rfl rfl rfl rfl ?_
          refine TL_pass rfl rfl rfl rfl rfl rfl rfl ?_
          refine TL_pass rfl rfl rfl rfl rfl rfl rfl ?_
          refine TL_pure rfl rfl rfl rfl (op_pick_true rfl rfl) ?_
          refine TL_keepH [1, 26] [11] rfl rfl rfl rfl (by rw [hF]; rfl) ?_
          exact TL_cast _ (by first | (rw [hq, Bool.true_or]; done) | (rw [hq]; rfl)) (hjj () trivial)
        · refine TL_want rfl rfl ?_
          refine TL_pure rfl rfl rfl rfl (op_fieldAddr fa69_3 rfl rfl) ?_
          refine TL_want rfl rfl ?_
          refine TL_pure rfl rfl rfl rfl (op_load_one ag67 rfl rfl) ?_
          refine TL_want rfl rfl ?_
          refine TL_pure rfl rfl rfl rfl (op_lenT Try.underlying67 rfl (List.length_map _)) ?_
          refine TL_fact (fun _ _ _ hr => RelP.slLen (i := 23) rfl hr) (fun hlen24 => ?_)
          rw [List.length_map] at hlen24
          refine TL_want rfl rfl ?_
          refine TL_pure rfl rfl rfl rfl (op_gtr rfl rfl) ?_
          refine TL_pure rfl rfl rfl rfl (op_pick_false rfl rfl) ?_
          refine TL_keepH [1, 26] [11] rfl rfl rfl rfl (by rw [hF]; rfl) ?_
          exact TL_cast _ (by first | (rw [hq, Bool.false_or]; done) | (rw [hq]; rfl)) (hjj () trivial)
theorem c_impl_copyInts (p0 : List Int) (out : List Int) (hm : m_impl_copyInts p0 = some out) : ACall Try.prog 124 [.sl 1 (List.map a_i64 p0)] [] (.ow 1000) [(1000, .arr ⟨false, true⟩ 1 2 (List.map a_i64 out))] := by
  refine ACall.intro Try.func124 rfl Try.ntmps124 rfl (fun F hF => ?_)
  unfold m_impl_copyInts at hm
  refine T_seq ?_
  refine T_region ?_
  refine TL_pure rfl rfl rfl rfl (op_assign rfl) ?_
  refine TL_nil ?_
  refine T_seq ?_
  refine T_region ?_
  refine TL_buildSlice 11 (es := List.map a_i64 ([] : List Int)) el26 z2 rfl rfl rfl rfl rfl rfl rfl rfl rfl ?_
  refine TL_pure rfl rfl rfl rfl (op_move rfl) ?_
  obtain ⟨q5, hq5, hm⟩ := bindS hm
  refine TL_appendT (f := a_i64) (a := ([] : List Int)) (b := p0) el26 z2 rfl rfl rfl rfl rfl rfl rfl (capI_spec hq5) rfl rfl rfl rfl rfl ?_
  refine TL_pure rfl rfl rfl rfl (op_assign rfl) ?_
  refine TL_nil ?_
  refine T_keepH [2] [11] rfl rfl rfl rfl (by rw [hF]; rfl) ?_
  refine T_deepen 11 (p' := false) (List.map a_i64 (([] : List Int) ++ p0)) (by rw [hF]; rfl) rfl (ElR.map (f := a_i64) (g := a_i64) (fun _ => ⟨⟨rfl, rfl⟩, trivial⟩) (([] : List Int) ++ p0)) rfl rfl rfl ?_
  refine T_ren [(11, 1000)] rfl rfl rfl (by rw [hF]; rfl) ?_
  refine T_ret ?_
  obtain rfl := someI hm
  refine ⟨[_], [1000], ⟨rfl, trivial⟩, ?_, rfl, rfl, rfl, rfl⟩
  rfl
theorem c_impl_Term_own (p0 : Term) (out : Term) (hm : m_impl_Term_own p0 = some out) : ACall Try.prog 159 [.agg [.int .i64 p0.Const, .sl 1 (List.map a_i64 p0.Coeffs)]] [] (.agg [.int .i64 out.Const, .ow 1000]) [(1000, .arr ⟨false, true⟩ 1 2 (List.map a_i64 out.Coeffs))] := by
  refine ACall.intro Try.func159 rfl Try.ntmps159 rfl (fun F hF => ?_)
  unfold m_impl_Term_own at hm
  refine T_seq ?_
  refine T_region ?_
  refine TL_box 11 rfl rfl rfl rfl rfl rfl rfl ?_
  refine TL_alloc 12 z184 rfl rfl rfl rfl rfl rfl rfl ?_
  refine TL_nil ?_
  refine T_seq ?_
  refine T_drawZ [6] mix (by kernel_rfl) rfl ?_
  obtain ⟨r7, hr7, hm⟩ := bindS hm
  refine TZ_pure 0 (by kernel_rfl) rfl rfl rfl rfl rfl (op_fieldAddr fa184_0 rfl rfl) ?_
  refine TZ_pure 1 (by kernel_rfl) rfl rfl rfl rfl rfl (op_load_one ag2 rfl rfl) ?_
  refine TZ_pure 2 (by kernel_rfl) rfl rfl rfl rfl rfl (op_fieldAddr fa184_1 rfl rfl) ?_
  refine TZ_pure 3 (by kernel_rfl) rfl rfl rfl rfl rfl (op_load_one ag26 rfl rfl) ?_
  refine TZ_one 4 (by kernel_rfl) rfl ?_
  refine TL_callO [(1000, 14)] (ACall.F (F := F) (c_impl_copyInts p0.Coeffs r7 hr7)) Try.call124 rfl rfl rfl rfl rfl rfl rfl rfl rfl rfl rfl rfl rfl ?_
  refine TL_nil ?_
  refine TZ_pure 5 (by kernel_rfl) rfl rfl rfl rfl rfl (op_buildP pl184 z184 rfl rfl rfl rfl rfl) ?_
  refine TZ_one 6 (by kernel_rfl) rfl ?_
  refine TL_store_box sz184 rfl rfl rfl rfl rfl rfl rfl rfl rfl ?_
  refine TL_nil ?_
  refine TZ_done (by kernel_rfl) ?_
  refine T_keepH [2] [12, 14] rfl rfl rfl rfl (by rw [hF]; rfl) ?_
  refine T_ren [(12, 12), (14, 1000)] rfl rfl rfl (by rw [hF]; rfl) ?_
  refine T_ret ?_
  obtain rfl := someI hm
  refine ⟨[_], [1000], ⟨⟨_, _, rfl, rfl, .inr ⟨ag184, _, _, sz184, rfl, rfl⟩⟩, trivial⟩, ?_, rfl, rfl, rfl, rfl⟩
  rfl
theorem c_impl_ownTerms (p0 : List Term) (out : List Term) (hm : m_impl_ownTerms p0 = some out) : ACall Try.prog 106 [.sl 2 (List.map a_Term p0)] [] (.ow 1000) [(1000, .arr ⟨false, true⟩ 2 184 (List.map a_Term out))] := by
  refine ACall.intro Try.func106 rfl Try.ntmps106 rfl (fun F hF => ?_)
  unfold m_impl_ownTerms at hm
  refine T_seq ?_
  refine T_region ?_
  refine TL_pure rfl rfl rfl rfl (op_assign rfl) ?_
  refine TL_nil ?_
  refine T_seq ?_
  refine T_region ?_
  refine TL_pure rfl rfl rfl rfl (op_assign rfl) ?_
  refine TL_nil ?_
  refine T_seq ?_
  refine T_seq ?_
  refine T_region ?_
  refine TL_pure rfl rfl rfl rfl (op_move rfl) ?_
  refine TL_pure rfl rfl rfl rfl (op_lenT Try.underlying66 rfl (List.length_map _)) ?_
  refine TL_fact (fun _ _ _ hr => RelP.slLen (i := 6) rfl hr) (fun hlen7 => ?_)
  rw [List.length_map] at hlen7
  refine TL_pure rfl rfl rfl rfl (op_move rfl) ?_
  refine TL_nil ?_
  refine T_block ?_
  refine T_ownNil 3 21 ⟨false, true⟩ 184 rfl rfl (sz := 2) rfl rfl rfl ?_
  refine T_keepH [3, 6, 7, 8] [21] rfl rfl rfl rfl (by rw [hF]; rfl) ?_
  refine T_ren [(21, 70000)] rfl rfl rfl (by rw [hF]; rfl) ?_
  refine T_loop ?_
  obtain ⟨u0, hl0, hm⟩ := bindS hm
  refine TR_forL2 p0 (m_impl_ownTerms_L0) (fun (s0 : List Term) => s0) (fun n0 (s0 : List Term) => ⟨[(3, .ow 70000), (6, .sl 2 (List.map a_Term p0)), (7, .int .i64 (p0.length : Int)), (8, .int .i64 (n0 : Int))], [(70000, .arr ⟨false, true⟩ 2 184 (List.map a_Term s0))]⟩) (fun u0 => .exit 0) (fun u0 => ⟨[(3, .ow 70000)], [(70000, .arr ⟨false, true⟩ 2 184 (List.map a_Term u0))]⟩) (fun u0 => m_impl_ownTerms_A0 u0 = some out) hl0 hm (fun u0 hm => ?_) (fun hx0 s0 hm => ?_) (fun hx0 n0 x0 s0 c0 hxn0 hlt0 hm hc0 => ?_)
  · unfold m_impl_ownTerms_A0 at hm
    refine T_seq ?_
    refine T_region ?_
    refine TL_pure rfl rfl rfl rfl (op_move rfl) ?_
    refine TL_pure rfl rfl rfl rfl (op_assign rfl) ?_
    refine TL_nil ?_
    refine T_keepH [2] [70000] rfl rfl rfl rfl (by rw [hF]; rfl) ?_
    refine T_ren [(70000, 1000)] rfl rfl rfl (by rw [hF]; rfl) ?_
    refine T_ret ?_
    obtain rfl := someI hm
    refine ⟨[_], [1000], ⟨rfl, trivial⟩, ?_, rfl, rfl, rfl, rfl⟩
    rfl
  · refine T_seq ?_
    refine T_region ?_
    refine TL_pure rfl rfl rfl rfl (op_lss rfl rfl) ?_
    refine TL_nil ?_
    refine T_seq ?_
    refine T_if_false rfl (decide_eq_false (by simp)) ?_
    refine T_keepH [3] [70000] rfl rfl rfl rfl (by rw [hF]; rfl) ?_
    refine T_exit ?_
    exact hx0 s0 hm
  · unfold m_impl_ownTerms_L0 at hm
    refine T_seq ?_
    refine T_region ?_
    refine TL_pure rfl rfl rfl rfl (op_lss rfl rfl) ?_
    refine TL_nil ?_
    refine T_seq ?_
    refine T_if_true rfl (decide_eq_true (Int.ofNat_lt.2 hlt0)) ?_
    refine T_skip ?_
    refine T_seq ?_
    refine T_block ?_
    refine T_seq ?_
    refine T_region ?_
    refine TL_pure rfl rfl rfl rfl (op_index_sl el66 rfl rfl rfl (get_map hxn0) rfl) ?_
    refine TL_pure rfl rfl rfl rfl (op_load_agg ag184 sz184 rfl rfl rfl) ?_
    refine TL_alloc 18 z184 rfl rfl rfl rfl rfl rfl rfl ?_
    refine TL_store_box sz184 rfl rfl rfl rfl rfl rfl rfl rfl rfl ?_
    refine TL_nil ?_
    refine T_region ?_
    refine TL_pure rfl rfl rfl rfl (op_move rfl) ?_
    refine TL_pure rfl rfl rfl rfl (op_load_agg ag184 sz184 rfl rfl rfl) ?_
    obtain ⟨r14, hr14, hm⟩ := bindS hm
    refine TL_callO [(1000, 19)] (ACall.F (F := F) (c_impl_Term_own x0 r14 hr14)) Try.call159 rfl rfl rfl rfl rfl rfl rfl rfl rfl rfl rfl rfl rfl ?_
    refine TL_buildSliceD (ids := [19]) (es := List.map a_Term [r14]) 20 el66 z184 rfl rfl rfl rfl rfl rfl (by rw [hF]; intro j hj; simp only [List.mem_cons, List.not_mem_nil, or_false] at hj; rcases hj with rfl <;> rfl) rfl rfl rfl rfl rfl rfl ?_
    obtain ⟨q16, hq16, hm⟩ := bindS hm
    refine TL_appendDT (f := a_Term) (a := s0) (b := [r14]) el66 z184 rfl rfl rfl rfl rfl rfl rfl rfl (by rw [hF]; rfl) (capI_spec hq16) rfl rfl rfl rfl rfl ?_
    refine TL_pure rfl rfl rfl rfl (op_assign rfl) ?_
    refine TL_nil ?_
    refine T_region ?_
    refine TL_pure rfl rfl rfl rfl (op_addN rfl rfl (Nat.lt_of_lt_of_le hlt0 hlen7)) ?_
    refine TL_pure rfl rfl rfl rfl (op_move rfl) ?_
    refine TL_nil ?_
    refine TR_keepH [3, 6, 7, 8] [70000] rfl rfl rfl rfl (by rw [hF]; rfl) ?_
    obtain rfl := someI hm
    have hn := CtlOK_next hc0
    exact hn _ rfl
theorem c_slices_Clone_impl_Instr_impl_Instr (p0 : List Instr) (out : List Instr) (hm : m_slices_Clone_impl_Instr_impl_Instr p0 = some out) : ACall Try.prog 150 [.sl 2 (List.map a_Instr p0)] [] (.ow 1000) [(1000, .arr ⟨false, true⟩ 2 40 (List.map a_Instr out))] := by
  refine ACall.intro Try.func150 rfl Try.ntmps150 rfl (fun F hF => ?_)
  unfold m_slices_Clone_impl_Instr_impl_Instr at hm
  refine T_seq ?_
  refine T_region ?_
  refine TL_pure rfl rfl rfl rfl (op_assign rfl) ?_
  refine TL_nil ?_
  refine T_seq ?_
  refine T_seq ?_
  refine T_region ?_
  refine TL_pure rfl rfl rfl rfl (op_move rfl) ?_
  refine TL_eqNil Try.underlying24 rfl rfl rfl rfl rfl (fun hE => ?_) ?_
  · have hE := List.map_eq_nil_iff.1 hE
    rw [hE] at hm
    replace hm : some ([] : List Instr) = some out := hm
    refine TL_nil ?_
    refine T_cond_true rfl ?_
    refine T_seq ?_
    refine T_region ?_
    refine TL_pure rfl rfl rfl rfl (op_assign rfl) ?_
    refine TL_nil ?_
    refine T_ownNil 2 11 ⟨false, true⟩ 40 rfl rfl (sz := 2) rfl rfl rfl ?_
    refine T_keepH [2] [11] rfl rfl rfl rfl (by rw [hF]; rfl) ?_
    refine T_ren [(11, 1000)] rfl rfl rfl (by rw [hF]; rfl) ?_
    refine T_ret ?_
    obtain rfl := someI hm
    refine ⟨[_], [1000], ⟨rfl, trivial⟩, ?_, rfl, rfl, rfl, rfl⟩
    rfl
  · refine TL_nil ?_
    refine T_cond_false rfl ?_
    refine T_skip ?_
    refine T_seq ?_
    refine T_region ?_
    refine TL_buildSlice 12 (es := List.map a_Instr ([] : List Instr)) el24 z40 rfl rfl rfl rfl rfl rfl rfl rfl rfl ?_
    refine TL_pure rfl rfl rfl rfl (op_move rfl) ?_
    obtain ⟨q7, hq7, hm⟩ := bindS hm
    refine TL_appendT (f := a_Instr) (a := ([] : List Instr)) (b := p0) el24 z40 rfl rfl rfl rfl rfl rfl rfl (capI_spec hq7) rfl rfl rfl rfl rfl ?_
    refine TL_pure rfl rfl rfl rfl (op_assign rfl) ?_
    refine TL_nil ?_
    refine T_keepH [2] [12] rfl rfl rfl rfl (by rw [hF]; rfl) ?_
    refine T_deepen 12 (p' := false) (List.map a_Instr (([] : List Instr) ++ p0)) (by rw [hF]; rfl) rfl (ElR.map (f := a_Instr) (g := a_Instr) (fun _ => ⟨⟨rfl, rfl⟩, ⟨⟨rfl, rfl⟩, trivial⟩⟩) (([] : List Instr) ++ p0)) rfl rfl rfl ?_
    refine T_ren [(12, 1000)] rfl rfl rfl (by rw [hF]; rfl) ?_
    refine T_ret ?_
    obtain rfl := someI hm
    refine ⟨[_], [1000], ⟨rfl, trivial⟩, ?_, rfl, rfl, rfl, rfl⟩
    rfl
theorem c_impl_Annotated_own (p0 : Annotated) (out : Annotated) (hm : m_impl_Annotated_own p0 = some out) : ACall Try.prog 90 [.agg [.sl 2 (List.map a_Term p0.Pre), .sl 2 (List.map a_Term p0.Post), .sl 2 (List.map a_Instr p0.Code), .sl 2 (List.map a_Point p0.Points)]] [] (.agg [.ow 1000, .ow 1001, .ow 1002, .ow 1003]) [(1000, .arr ⟨false, true⟩ 2 184 (List.map a_Term out.Pre)), (1001, .arr ⟨false, true⟩ 2 184 (List.map a_Term out.Post)), (1002, .arr ⟨false, true⟩ 2 40 (List.map a_Instr out.Code)), (1003, .arr ⟨false, true⟩ 2 81 (List.map a_Point out.Points))] := by
  refine ACall.intro Try.func90 rfl Try.ntmps90 rfl (fun F hF => ?_)
  unfold m_impl_Annotated_own at hm
  refine T_seq ?_
  refine T_region ?_
  refine TL_box 11 rfl rfl rfl rfl rfl rfl rfl ?_
  refine TL_alloc 12 z69 rfl rfl rfl rfl rfl rfl rfl ?_
  refine TL_nil ?_
  refine T_join (fun (j0 : (List Term) × (List Term) × (List Instr)) => ⟨[(1, .ptr 11 0 0), (2, .ptr 12 0 0), (3, .ptr 893 0 0)], [(11, .box [.sl 2 (List.map a_Term p0.Pre), .sl 2 (List.map a_Term p0.Post), .sl 2 (List.map a_Instr p0.Code), .sl 2 (List.map a_Point p0.Points)]), (12, .box [.snil, .snil, .snil, .snil]), (253, .arr ⟨false, true⟩ 2 184 (List.map a_Term j0.1)), (493, .arr ⟨false, true⟩ 2 184 (List.map a_Term j0.2.1)), (733, .arr ⟨false, true⟩ 2 40 (List.map a_Instr j0.2.2)), (893, .box [.ow 253, .ow 493, .ow 733, .snil])]⟩) (fun j0 => m_impl_Annotated_own_J0 p0 j0 = some out) (fun j0 hm => ?_) (fun hj0 => ?_)
  · unfold m_impl_Annotated_own_J0 at hm
    refine T_seq ?_
    refine T_seq ?_
    refine T_region ?_
    refine TL_pure rfl rfl rfl rfl (op_fieldAddr fa69_3 rfl rfl) ?_
    refine TL_pure rfl rfl rfl rfl (op_load_one ag67 rfl rfl) ?_
    refine TL_pure rfl rfl rfl rfl (op_lenT Try.underlying67 rfl (List.length_map _)) ?_
    refine TL_fact (fun _ _ _ hr => RelP.slLen (i := 17) rfl hr) (fun hlen18 => ?_)
    rw [List.length_map] at hlen18
    refine TL_pure rfl rfl rfl rfl (op_move rfl) ?_
    refine TL_nil ?_
    refine T_block ?_
    refine T_ownNilBox 893 3 3856 ⟨false, true⟩ 81 rfl rfl rfl (sz := 2) rfl rfl rfl rfl ?_
    refine T_keepH [2, 3, 17, 18, 19] [12, 253, 493, 733, 893, 3856] rfl rfl rfl rfl (by rw [hF]; rfl) ?_
    refine T_ren [(12, 12), (253, 253), (493, 493), (733, 733), (893, 893), (3856, 70005)] rfl rfl rfl (by rw [hF]; rfl) ?_
    refine T_loop ?_
    obtain ⟨u0, hl0, hm⟩ := bindS hm
    refine TR_forL2 p0.Points (m_impl_Annotated_own_L0) (fun (s0 : List Point) => s0) (fun n0 (s0 : List Point) => ⟨[(2, .ptr 12 0 0), (3, .ptr 893 0 0), (17, .sl 2 (List.map a_Point p0.Points)), (18, .int .i64 (p0.Points.length : Int)), (19, .int .i64 (n0 : Int))], [(12, .box [.snil, .snil, .snil, .snil]), (253, .arr ⟨false, true⟩ 2 184 (List.map a_Term j0.1)), (493, .arr ⟨false, true⟩ 2 184 (List.map a_Term j0.2.1)), (733, .arr ⟨false, true⟩ 2 40 (List.map a_Instr j0.2.2)), (893, .box [.ow 253, .ow 493, .ow 733, .ow 70005]), (70005, .arr ⟨false, true⟩ 2 81 (List.map a_Point s0))]⟩) (fun u0 => .exit 0) (fun u0 => ⟨[(2, .ptr 12 0 0), (3, .ptr 893 0 0)], [(12, .box [.snil, .snil, .snil, .snil]), (253, .arr ⟨false, true⟩ 2 184 (List.map a_Term j0.1)), (493, .arr ⟨false, true⟩ 2 184 (List.map a_Term j0.2.1)), (733, .arr ⟨false, true⟩ 2 40 (List.map a_Instr j0.2.2)), (893, .box [.ow 253, .ow 493, .ow 733, .ow 70005]), (70005, .arr ⟨false, true⟩ 2 81 (List.map a_Point u0))]⟩) (fun u0 => m_impl_Annotated_own_A0 j0 u0 = some out) hl0 hm (fun u0 hm => ?_) (fun hx0 s0 hm => ?_) (fun hx0 n0 x0 s0 c0 hxn0 hlt0 hm hc0 => ?_)
    · unfold m_impl_Annotated_own_A0 at hm
      refine T_seq ?_
      refine T_region ?_
      refine TL_pure rfl rfl rfl rfl (op_load_agg ag69 sz69 rfl rfl rfl) ?_
      refine TL_store_box sz69 rfl rfl rfl rfl rfl rfl rfl rfl rfl ?_
      refine TL_nil ?_
      refine T_keepH [2] [12, 253, 493, 733, 70005] rfl rfl rfl rfl (by rw [hF]; rfl) ?_
      refine T_ren [(12, 12), (253, 1000), (493, 1001), (733, 1002), (70005, 1003)] rfl rfl rfl (by rw [hF]; rfl) ?_
      refine T_ret ?_
      obtain rfl := someI hm
      refine ⟨[_], [1000, 1001, 1002, 1003], ⟨⟨_, _, rfl, rfl, .inr ⟨ag69, _, _, sz69, rfl, rfl⟩⟩, trivial⟩, ?_, rfl, rfl, rfl, rfl⟩
      rfl
    · refine T_seq ?_
      refine T_region ?_
      refine TL_pure rfl rfl rfl rfl (op_lss rfl rfl) ?_
      refine TL_nil ?_
      refine T_seq ?_
      refine T_if_false rfl (decide_eq_false (by simp)) ?_
      refine T_keepH [2, 3] [12, 253, 493, 733, 893, 70005] rfl rfl rfl rfl (by rw [hF]; rfl) ?_
      refine T_exit ?_
      exact hx0 s0 hm
    · unfold m_impl_Annotated_own_L0 at hm
      refine T_seq ?_
      refine T_region ?_
      refine TL_pure rfl rfl rfl rfl (op_lss rfl rfl) ?_
      refine TL_nil ?_
      refine T_seq ?_
      refine T_if_true rfl (decide_eq_true (Int.ofNat_lt.2 hlt0)) ?_
      refine T_skip ?_
      refine T_seq ?_
      refine T_block ?_
      refine T_seq ?_
      refine T_region ?_
      refine TL_pure rfl rfl rfl rfl (op_index_sl el67 rfl rfl rfl (get_map hxn0) rfl) ?_
      refine TL_pure rfl rfl rfl rfl (op_load_agg ag81 sz81 rfl rfl rfl) ?_
      refine TL_alloc 2895 z81 rfl rfl rfl rfl rfl rfl rfl ?_
      refine TL_store_box sz81 rfl rfl rfl rfl rfl rfl rfl rfl rfl ?_
      refine TL_nil ?_
      refine T_drawZ [8, 9, 11] mix (by kernel_rfl) rfl ?_
      obtain ⟨r29, hr29, hm⟩ := bindS hm
      obtain ⟨q32, hq32, hm⟩ := bindS hm
      refine TZ_pure 0 (by kernel_rfl) rfl rfl rfl rfl rfl (op_fieldAddr fa69_3 rfl rfl) ?_
      refine TZ_pure 2 (by kernel_rfl) rfl rfl rfl rfl rfl (op_fieldAddr fa81_0 rfl rfl) ?_
      refine TZ_pure 4 (by kernel_rfl) rfl rfl rfl rfl rfl (op_fieldAddr fa81_1 rfl rfl) ?_
      refine TZ_cut 7 [true, true, true, true, true, false, false, false, false, false, false, false] ⟨[(2, .ptr 12 0 0), (3, .ptr 893 0 0), (5, .ptr 2895 0 0), (17, .sl 2 (List.map a_Point p0.Points)), (18, .int .i64 (p0.Points.length : Int)), (19, .int .i64 (n0 : Int)), (20, .bool (decide ((n0 : Int) < (p0.Points.length : Int)))), (21, .cp [.int .i64 x0.At, .sl 2 (List.map a_Term x0.Facts)]), (22, .agg [.int .i64 x0.At, .sl 2 (List.map a_Term x0.Facts)]), (23, .ptr 893 0 3), (24, .ow 70005), (25, .ptr 2895 0 0), (26, .int .i64 x0.At), (27, .ptr 2895 0 1)], [(12, .box [.snil, .snil, .snil, .snil]), (253, .arr ⟨false, true⟩ 2 184 (List.map a_Term j0.1)), (493, .arr ⟨false, true⟩ 2 184 (List.map a_Term j0.2.1)), (733, .arr ⟨false, true⟩ 2 40 (List.map a_Instr j0.2.2)), (893, .box [.ow 253, .ow 493, .ow 733, .ow 70005]), (2895, .box [.int .i64 x0.At, .sl 2 (List.map a_Term x0.Facts)]), (70005, .arr ⟨false, true⟩ 2 81 (List.map a_Point s0))]⟩ ?_ (fun hS2895_0 => ?_)
      · refine TZ_one 5 (by kernel_rfl) rfl ?_
        refine TL_pure rfl rfl rfl rfl (op_load_one ag66 rfl rfl) ?_
        refine TL_nil ?_
        refine TZ_one 6 (by kernel_rfl) rfl ?_
        refine TL_callO [(1000, 3456)] (ACall.F (F := F) (c_impl_ownTerms x0.Facts r29 hr29)) Try.call106 rfl rfl rfl rfl rfl rfl rfl rfl rfl rfl rfl rfl rfl ?_
        refine TL_nil ?_
        refine TZ_pure 7 (by kernel_rfl) rfl rfl rfl rfl rfl (op_buildP pl81 z81 rfl rfl rfl rfl rfl) ?_
        refine TZ_one 8 (by kernel_rfl) rfl ?_
        refine TL_buildSliceD (ids := [3456]) (es := List.map a_Point [(Point.mk x0.At r29)]) 3616 el67 z81 rfl rfl rfl rfl rfl rfl (by rw [hF]; intro j hj; simp only [List.mem_cons, List.not_mem_nil, or_false] at hj; rcases hj with rfl <;> rfl) rfl rfl rfl rfl rfl rfl ?_
        refine TL_nil ?_
        refine TZ_one 9 (by kernel_rfl) rfl ?_
        refine TL_appendDT (f := a_Point) (a := s0) (b := [(Point.mk x0.At r29)]) el67 z81 rfl rfl rfl rfl rfl rfl rfl rfl (by rw [hF]; rfl) (capI_spec hq32) rfl rfl rfl rfl rfl ?_
        refine TL_nil ?_
        refine TZ_pure 10 (by kernel_rfl) rfl rfl rfl rfl rfl (op_fieldAddr fa69_3 rfl rfl) ?_
        refine TZ_one 11 (by kernel_rfl) rfl ?_
        refine TL_store_box sz67 rfl rfl rfl rfl rfl rfl rfl rfl rfl ?_
        refine TL_nil ?_
        refine TZ_done (by kernel_rfl) ?_
        refine T_region ?_
        refine TL_pure rfl rfl rfl rfl (op_addN rfl rfl (Nat.lt_of_lt_of_le hlt0 hlen18)) ?_
        refine TL_pure rfl rfl rfl rfl (op_move rfl) ?_
        refine TL_nil ?_
        refine TR_keepH [2, 3, 17, 18, 19] [12, 253, 493, 733, 893, 70005] rfl rfl rfl rfl (by rw [hF]; rfl) ?_
        obtain rfl := someI hm
        have hn := CtlOK_next hc0
        exact hn _ rfl
      refine TZ_cut 6 [true, true, true, true, true, true, false, false, false, false, false, false] ⟨[(2, .ptr 12 0 0), (3, .ptr 893 0 0), (5, .ptr 2895 0 0), (17, .sl 2 (List.map a_Point p0.Points)), (18, .int .i64 (p0.Points.length : Int)), (19, .int .i64 (n0 : Int)), (20, .bool (decide ((n0 : Int) < (p0.Points.length : Int)))), (21, .cp [.int .i64 x0.At, .sl 2 (List.map a_Term x0.Facts)]), (22, .agg [.int .i64 x0.At, .sl 2 (List.map a_Term x0.Facts)]), (23, .ptr 893 0 3), (24, .ow 70005), (25, .ptr 2895 0 0), (26, .int .i64 x0.At), (27, .ptr 2895 0 1), (28, .sl 2 (List.map a_Term x0.Facts))], [(12, .box [.snil, .snil, .snil, .snil]), (253, .arr ⟨false, true⟩ 2 184 (List.map a_Term j0.1)), (493, .arr ⟨false, true⟩ 2 184 (List.map a_Term j0.2.1)), (733, .arr ⟨false, true⟩ 2 40 (List.map a_Instr j0.2.2)), (893, .box [.ow 253, .ow 493, .ow 733, .ow 70005]), (2895, .box [.int .i64 x0.At, .sl 2 (List.map a_Term x0.Facts)]), (70005, .arr ⟨false, true⟩ 2 81 (List.map a_Point s0))]⟩ ?_ (fun hS2895_1 => ?_)
      · refine TZ_one 6 (by kernel_rfl) rfl ?_
        refine TL_callO [(1000, 3456)] (ACall.F (F := F) (c_impl_ownTerms x0.Facts r29 hr29)) Try.call106 rfl rfl rfl rfl rfl rfl rfl rfl rfl rfl rfl rfl rfl ?_
        refine TL_nil ?_
        refine TZ_pure 7 (by kernel_rfl) rfl rfl rfl rfl rfl (op_buildP pl81 z81 rfl rfl rfl rfl rfl) ?_
        refine TZ_one 8 (by kernel_rfl) rfl ?_
        refine TL_buildSliceD (ids := [3456]) (es := List.map a_Point [(Point.mk x0.At r29)]) 3616 el67 z81 rfl rfl rfl rfl rfl rfl (by rw [hF]; intro j hj; simp only [List.mem_cons, List.not_mem_nil, or_false] at hj; rcases hj with rfl <;> rfl) rfl rfl rfl rfl rfl rfl ?_
        refine TL_nil ?_
        refine TZ_one 9 (by kernel_rfl) rfl ?_
        refine TL_appendDT (f := a_Point) (a := s0) (b := [(Point.mk x0.At r29)]) el67 z81 rfl rfl rfl rfl rfl rfl rfl rfl (by rw [hF]; rfl) (capI_spec hq32) rfl rfl rfl rfl rfl ?_
        refine TL_nil ?_
        refine TZ_pure 10 (by kernel_rfl) rfl rfl rfl rfl rfl (op_fieldAddr fa69_3 rfl rfl) ?_
        refine TZ_one 11 (by kernel_rfl) rfl ?_
        refine TL_store_box sz67 rfl rfl rfl rfl rfl rfl rfl rfl rfl ?_
        refine TL_nil ?_
        refine TZ_done (by kernel_rfl) ?_
        refine T_region ?_
        refine TL_pure rfl rfl rfl rfl (op_addN rfl rfl (Nat.lt_of_lt_of_le hlt0 hlen18)) ?_
        refine TL_pure rfl rfl rfl rfl (op_move rfl) ?_
        refine TL_nil ?_
        refine TR_keepH [2, 3, 17, 18, 19] [12, 253, 493, 733, 893, 70005] rfl rfl rfl rfl (by rw [hF]; rfl) ?_
        obtain rfl := someI hm
        have hn := CtlOK_next hc0
        exact hn _ rfl
      refine TZ_cut 6 [true, true, true, false, true, true, true, false, false, false, false, false] ⟨[(2, .ptr 12 0 0), (3, .ptr 893 0 0), (5, .ptr 2895 0 0), (17, .sl 2 (List.map a_Point p0.Points)), (18, .int .i64 (p0.Points.length : Int)), (19, .int .i64 (n0 : Int)), (20, .bool (decide ((n0 : Int) < (p0.Points.length : Int)))), (21, .cp [.int .i64 x0.At, .sl 2 (List.map a_Term x0.Facts)]), (22, .agg [.int .i64 x0.At, .sl 2 (List.map a_Term x0.Facts)]), (23, .ptr 893 0 3), (24, .ow 70005), (25, .ptr 2895 0 0), (27, .ptr 2895 0 1), (28, .sl 2 (List.map a_Term x0.Facts)), (29, .ow 3456)], [(12, .box [.snil, .snil, .snil, .snil]), (253, .arr ⟨false, true⟩ 2 184 (List.map a_Term j0.1)), (493, .arr ⟨false, true⟩ 2 184 (List.map a_Term j0.2.1)), (733, .arr ⟨false, true⟩ 2 40 (List.map a_Instr j0.2.2)), (893, .box [.ow 253, .ow 493, .ow 733, .ow 70005]), (2895, .box [.int .i64 x0.At, .sl 2 (List.map a_Term x0.Facts)]), (3456, .arr ⟨false, true⟩ 2 184 (List.map a_Term r29)), (70005, .arr ⟨false, true⟩ 2 81 (List.map a_Point s0))]⟩ ?_ (fun hS2895_2 => ?_)
      · refine TZ_one 3 (by kernel_rfl) rfl ?_
        refine TL_pure rfl rfl rfl rfl (op_load_one ag2 rfl rfl) ?_
        refine TL_nil ?_
        refine TZ_pure 7 (by kernel_rfl) rfl rfl rfl rfl rfl (op_buildP pl81 z81 rfl rfl rfl rfl rfl) ?_
        refine TZ_one 8 (by kernel_rfl) rfl ?_
        refine TL_buildSliceD (ids := [3456]) (es := List.map a_Point [(Point.mk x0.At r29)]) 3616 el67 z81 rfl rfl rfl rfl rfl rfl (by rw [hF]; intro j hj; simp only [List.mem_cons, List.not_mem_nil, or_false] at hj; rcases hj with rfl <;> rfl) rfl rfl rfl rfl rfl rfl ?_
        refine TL_nil ?_
        refine TZ_one 9 (by kernel_rfl) rfl ?_
        refine TL_appendDT (f := a_Point) (a := s0) (b := [(Point.mk x0.At r29)]) el67 z81 rfl rfl rfl rfl rfl rfl rfl rfl (by rw [hF]; rfl) (capI_spec hq32) rfl rfl rfl rfl rfl ?_
        refine TL_nil ?_
        refine TZ_pure 10 (by kernel_rfl) rfl rfl rfl rfl rfl (op_fieldAddr fa69_3 rfl rfl) ?_
        refine TZ_one 11 (by kernel_rfl) rfl ?_
        refine TL_store_box sz67 rfl rfl rfl rfl rfl rfl rfl rfl rfl ?_
        refine TL_nil ?_
        refine TZ_done (by kernel_rfl) ?_
        refine T_region ?_
        refine TL_pure rfl rfl rfl rfl (op_addN rfl rfl (Nat.lt_of_lt_of_le hlt0 hlen18)) ?_
        refine TL_pure rfl rfl rfl rfl (op_move rfl) ?_
        refine TL_nil ?_
        refine TR_keepH [2, 3, 17, 18, 19] [12, 253, 493, 733, 893, 70005] rfl rfl rfl rfl (by rw [hF]; rfl) ?_
        obtain rfl := someI hm
        have hn := CtlOK_next hc0
        exact hn _ rfl
      refine TZ_cut 7 [true, true, true, false, true, true, false, false, false, false, false, false] ⟨[(2, .ptr 12 0 0), (3, .ptr 893 0 0), (5, .ptr 2895 0 0), (17, .sl 2 (List.map a_Point p0.Points)), (18, .int .i64 (p0.Points.length : Int)), (19, .int .i64 (n0 : Int)), (20, .bool (decide ((n0 : Int) < (p0.Points.length : Int)))), (21, .cp [.int .i64 x0.At, .sl 2 (List.map a_Term x0.Facts)]), (22, .agg [.int .i64 x0.At, .sl 2 (List.map a_Term x0.Facts)]), (23, .ptr 893 0 3), (24, .ow 70005), (25, .ptr 2895 0 0), (27, .ptr 2895 0 1), (28, .sl 2 (List.map a_Term x0.Facts))], [(12, .box [.snil, .snil, .snil, .snil]), (253, .arr ⟨false, true⟩ 2 184 (List.map a_Term j0.1)), (493, .arr ⟨false, true⟩ 2 184 (List.map a_Term j0.2.1)), (733, .arr ⟨false, true⟩ 2 40 (List.map a_Instr j0.2.2)), (893, .box [.ow 253, .ow 493, .ow 733, .ow 70005]), (2895, .box [.int .i64 x0.At, .sl 2 (List.map a_Term x0.Facts)]), (70005, .arr ⟨false, true⟩ 2 81 (List.map a_Point s0))]⟩ ?_ (fun hS2895_3 => ?_)
      · refine TZ_each [3, 6] (by kernel_rfl) rfl ?_
        refine ⟨?_, ?_⟩
        · refine ⟨_, rfl, ?_⟩
          refine TL_pure rfl rfl rfl rfl (op_load_one ag2 rfl rfl) ?_
          refine TL_nil ?_
          refine TZ_keepH [2, 3, 5, 17, 18, 19, 20, 21, 22, 23, 24, 25, 26, 27, 28] [12, 253, 493, 733, 893, 2895, 70005] rfl rfl rfl rfl (by rw [hF]; rfl) ?_
          exact hS2895_1
        · refine ⟨_, rfl, ?_⟩
          refine TL_callO [(1000, 3456)] (ACall.F (F := F) (c_impl_ownTerms x0.Facts r29 hr29)) Try.call106 rfl rfl rfl rfl rfl rfl rfl rfl rfl rfl rfl rfl rfl ?_
          refine TL_nil ?_
          refine TZ_keepH [2, 3, 5, 17, 18, 19, 20, 21, 22, 23, 24, 25, 27, 28, 29] [12, 253, 493, 733, 893, 2895, 3456, 70005] rfl rfl rfl rfl (by rw [hF]; rfl) ?_
          exact hS2895_2
      refine TZ_cut 8 [true, true, true, false, true, false, false, false, false, false, false, false] ⟨[(2, .ptr 12 0 0), (3, .ptr 893 0 0), (5, .ptr 2895 0 0), (17, .sl 2 (List.map a_Point p0.Points)), (18, .int .i64 (p0.Points.length : Int)), (19, .int .i64 (n0 : Int)), (20, .bool (decide ((n0 : Int) < (p0.Points.length : Int)))), (21, .cp [.int .i64 x0.At, .sl 2 (List.map a_Term x0.Facts)]), (22, .agg [.int .i64 x0.At, .sl 2 (List.map a_Term x0.Facts)]), (23, .ptr 893 0 3), (24, .ow 70005), (25, .ptr 2895 0 0), (27, .ptr 2895 0 1)], [(12, .box [.snil, .snil, .snil, .snil]), (253, .arr ⟨false, true⟩ 2 184 (List.map a_Term j0.1)), (493, .arr ⟨false, true⟩ 2 184 (List.map a_Term j0.2.1)), (733, .arr ⟨false, true⟩ 2 40 (List.map a_Instr j0.2.2)), (893, .box [.ow 253, .ow 493, .ow 733, .ow 70005]), (2895, .box [.int .i64 x0.At, .sl 2 (List.map a_Term x0.Facts)]), (70005, .arr ⟨false, true⟩ 2 81 (List.map a_Point s0))]⟩ ?_ (fun hS2895_4 => ?_)
      · refine TZ_each [3, 5] (by kernel_rfl) rfl ?_
        refine ⟨?_, ?_⟩
        · refine ⟨_, rfl, ?_⟩
          refine TL_pure rfl rfl rfl rfl (op_load_one ag2 rfl rfl) ?_
          refine TL_nil ?_
          refine TZ_keepH [2, 3, 5, 17, 18, 19, 20, 21, 22, 23, 24, 25, 26, 27] [12, 253, 493, 733, 893, 2895, 70005] rfl rfl rfl rfl (by rw [hF]; rfl) ?_
          exact hS2895_0
        · refine ⟨_, rfl, ?_⟩
          refine TL_pure rfl rfl rfl rfl (op_load_one ag66 rfl rfl) ?_
          refine TL_nil ?_
          refine TZ_keepH [2, 3, 5, 17, 18, 19, 20, 21, 22, 23, 24, 25, 27, 28] [12, 253, 493, 733, 893, 2895, 70005] rfl rfl rfl rfl (by rw [hF]; rfl) ?_
          exact hS2895_3
      refine TZ_cut 4 [true, true, true, true, true, true, true, true, false, false, false, false] ⟨[(2, .ptr 12 0 0), (3, .ptr 893 0 0), (5, .ptr 2895 0 0), (17, .sl 2 (List.map a_Point p0.Points)), (18, .int .i64 (p0.Points.length : Int)), (19, .int .i64 (n0 : Int)), (20, .bool (decide ((n0 : Int) < (p0.Points.length : Int)))), (21, .cp [.int .i64 x0.At, .sl 2 (List.map a_Term x0.Facts)]), (22, .agg [.int .i64 x0.At, .sl 2 (List.map a_Term x0.Facts)]), (23, .ptr 893 0 3), (24, .ow 70005), (25, .ptr 2895 0 0), (26, .int .i64 x0.At), (27, .ptr 2895 0 1), (28, .sl 2 (List.map a_Term x0.Facts)), (29, .ow 3456), (30, .agg [.int .i64 x0.At, .ow 3456])], [(12, .box [.snil, .snil, .snil, .snil]), (253, .arr ⟨false, true⟩ 2 184 (List.map a_Term j0.1)), (493, .arr ⟨false, true⟩ 2 184 (List.map a_Term j0.2.1)), (733, .arr ⟨false, true⟩ 2 40 (List.map a_Instr j0.2.2)), (893, .box [.ow 253, .ow 493, .ow 733, .ow 70005]), (2895, .box [.int .i64 x0.At, .sl 2 (List.map a_Term x0.Facts)]), (3456, .arr ⟨false, true⟩ 2 184 (List.map a_Term r29)), (70005, .arr ⟨false, true⟩ 2 81 (List.map a_Point s0))]⟩ ?_ (fun hS2895_5 => ?_)
      · refine TZ_one 8 (by kernel_rfl) rfl ?_
        refine TL_buildSliceD (ids := [3456]) (es := List.map a_Point [(Point.mk x0.At r29)]) 3616 el67 z81 rfl rfl rfl rfl rfl rfl (by rw [hF]; intro j hj; simp only [List.mem_cons, List.not_mem_nil, or_false] at hj; rcases hj with rfl <;> rfl) rfl rfl rfl rfl rfl rfl ?_
        refine TL_nil ?_
        refine TZ_one 9 (by kernel_rfl) rfl ?_
        refine TL_appendDT (f := a_Point) (a := s0) (b := [(Point.mk x0.At r29)]) el67 z81 rfl rfl rfl rfl rfl rfl rfl rfl (by rw [hF]; rfl) (capI_spec hq32) rfl rfl rfl rfl rfl ?_
        refine TL_nil ?_
        refine TZ_pure 10 (by kernel_rfl) rfl rfl rfl rfl rfl (op_fieldAddr fa69_3 rfl rfl) ?_
        refine TZ_one 11 (by kernel_rfl) rfl ?_
        refine TL_store_box sz67 rfl rfl rfl rfl rfl rfl rfl rfl rfl ?_
        refine TL_nil ?_
        refine TZ_done (by kernel_rfl) ?_
        refine T_region ?_
        refine TL_pure rfl rfl rfl rfl (op_addN rfl rfl (Nat.lt_of_lt_of_le hlt0 hlen18)) ?_
        refine TL_pure rfl rfl rfl rfl (op_move rfl) ?_
        refine TL_nil ?_
        refine TR_keepH [2, 3, 17, 18, 19] [12, 253, 493, 733, 893, 70005] rfl rfl rfl rfl (by rw [hF]; rfl) ?_
        obtain rfl := someI hm
        have hn := CtlOK_next hc0
        exact hn _ rfl
      refine TZ_cut 4 [true, false, true, true, true, true, true, true, true, false, false, false] ⟨[(2, .ptr 12 0 0), (3, .ptr 893 0 0), (5, .ptr 2895 0 0), (17, .sl 2 (List.map a_Point p0.Points)), (18, .int .i64 (p0.Points.length : Int)), (19, .int .i64 (n0 : Int)), (20, .bool (decide ((n0 : Int) < (p0.Points.length : Int)))), (21, .cp [.int .i64 x0.At, .sl 2 (List.map a_Term x0.Facts)]), (22, .agg [.int .i64 x0.At, .sl 2 (List.map a_Term x0.Facts)]), (23, .ptr 893 0 3), (25, .ptr 2895 0 0), (26, .int .i64 x0.At), (27, .ptr 2895 0 1), (28, .sl 2 (List.map a_Term x0.Facts)), (29, .junk), (30, .junk), (31, .ow 3616)], [(12, .box [.snil, .snil, .snil, .snil]), (253, .arr ⟨false, true⟩ 2 184 (List.map a_Term j0.1)), (493, .arr ⟨false, true⟩ 2 184 (List.map a_Term j0.2.1)), (733, .arr ⟨false, true⟩ 2 40 (List.map a_Instr j0.2.2)), (893, .box [.ow 253, .ow 493, .ow 733, .ow 70005]), (2895, .box [.int .i64 x0.At, .sl 2 (List.map a_Term x0.Facts)]), (3616, .arr ⟨false, true⟩ 2 81 (List.map a_Point [(Point.mk x0.At r29)])), (70005, .arr ⟨false, true⟩ 2 81 (List.map a_Point s0))]⟩ ?_ (fun hS2895_6 => ?_)
      · refine TZ_pure 1 (by kernel_rfl) rfl rfl rfl rfl rfl (op_load_one ag67 rfl rfl) ?_
        refine TZ_one 9 (by kernel_rfl) rfl ?_
        refine TL_appendDT (f := a_Point) (a := s0) (b := [(Point.mk x0.At r29)]) el67 z81 rfl rfl rfl rfl rfl rfl rfl rfl (by rw [hF]; rfl) (capI_spec hq32) rfl rfl rfl rfl rfl ?_
        refine TL_nil ?_
        refine TZ_pure 10 (by kernel_rfl) rfl rfl rfl rfl rfl (op_fieldAddr fa69_3 rfl rfl) ?_
        refine TZ_one 11 (by kernel_rfl) rfl ?_
        refine TL_store_box sz67 rfl rfl rfl rfl rfl rfl rfl rfl rfl ?_
        refine TL_nil ?_
        refine TZ_done (by kernel_rfl) ?_
        refine T_region ?_
        refine TL_pure rfl rfl rfl rfl (op_addN rfl rfl (Nat.lt_of_lt_of_le hlt0 hlen18)) ?_
        refine TL_pure rfl rfl rfl rfl (op_move rfl) ?_
        refine TL_nil ?_
        refine TR_keepH [2, 3, 17, 18, 19] [12, 253, 493, 733, 893, 70005] rfl rfl rfl rfl (by rw [hF]; rfl) ?_
        obtain rfl := someI hm
        have hn := CtlOK_next hc0
        exact hn _ rfl
      refine TZ_cut 6 [true, false, true, true, true, true, true, false, false, false, false, false] ⟨[(2, .ptr 12 0 0), (3, .ptr 893 0 0), (5, .ptr 2895 0 0), (17, .sl 2 (List.map a_Point p0.Points)), (18, .int .i64 (p0.Points.length : Int)), (19, .int .i64 (n0 : Int)), (20, .bool (decide ((n0 : Int) < (p0.Points.length : Int)))), (21, .cp [.int .i64 x0.At, .sl 2 (List.map a_Term x0.Facts)]), (22, .agg [.int .i64 x0.At, .sl 2 (List.map a_Term x0.Facts)]), (23, .ptr 893 0 3), (25, .ptr 2895 0 0), (26, .int .i64 x0.At), (27, .ptr 2895 0 1), (28, .sl 2 (List.map a_Term x0.Facts)), (29, .ow 3456)], [(12, .box [.snil, .snil, .snil, .snil]), (253, .arr ⟨false, true⟩ 2 184 (List.map a_Term j0.1)), (493, .arr ⟨false, true⟩ 2 184 (List.map a_Term j0.2.1)), (733, .arr ⟨false, true⟩ 2 40 (List.map a_Instr j0.2.2)), (893, .box [.ow 253, .ow 493, .ow 733, .ow 70005]), (2895, .box [.int .i64 x0.At, .sl 2 (List.map a_Term x0.Facts)]), (3456, .arr ⟨false, true⟩ 2 184 (List.map a_Term r29)), (70005, .arr ⟨false, true⟩ 2 81 (List.map a_Point s0))]⟩ ?_ (fun hS2895_7 => ?_)
      · refine TZ_pure 7 (by kernel_rfl) rfl rfl rfl rfl rfl (op_buildP pl81 z81 rfl rfl rfl rfl rfl) ?_
        refine TZ_each [1, 8] (by kernel_rfl) rfl ?_
        refine ⟨?_, ?_⟩
        · refine ⟨_, rfl, ?_⟩
          refine TL_pure rfl rfl rfl rfl (op_load_one ag67 rfl rfl) ?_
          refine TL_nil ?_
          refine TZ_keepH [2, 3, 5, 17, 18, 19, 20, 21, 22, 23, 24, 25, 26, 27, 28, 29, 30] [12, 253, 493, 733, 893, 2895, 3456, 70005] rfl rfl rfl rfl (by rw [hF]; rfl) ?_
          exact hS2895_5
        · refine ⟨_, rfl, ?_⟩
          refine TL_buildSliceD (ids := [3456]) (es := List.map a_Point [(Point.mk x0.At r29)]) 3616 el67 z81 rfl rfl rfl rfl rfl rfl (by rw [hF]; intro j hj; simp only [List.mem_cons, List.not_mem_nil, or_false] at hj; rcases hj with rfl <;> rfl) rfl rfl rfl rfl rfl rfl ?_
          refine TL_nil ?_
          refine TZ_keepH [2, 3, 5, 17, 18, 19, 20, 21, 22, 23, 25, 26, 27, 28, 29, 30, 31] [12, 253, 493, 733, 893, 2895, 3616, 70005] rfl rfl rfl rfl (by rw [hF]; rfl) ?_
          exact hS2895_6
      refine TZ_cut 7 [true, false, true, true, true, true, false, false, false, false, false, false] ⟨[(2, .ptr 12 0 0), (3, .ptr 893 0 0), (5, .ptr 2895 0 0), (17, .sl 2 (List.map a_Point p0.Points)), (18, .int .i64 (p0.Points.length : Int)), (19, .int .i64 (n0 : Int)), (20, .bool (decide ((n0 : Int) < (p0.Points.length : Int)))), (21, .cp [.int .i64 x0.At, .sl 2 (List.map a_Term x0.Facts)]), (22, .agg [.int .i64 x0.At, .sl 2 (List.map a_Term x0.Facts)]), (23, .ptr 893 0 3), (25, .ptr 2895 0 0), (26, .int .i64 x0.At), (27, .ptr 2895 0 1), (28, .sl 2 (List.map a_Term x0.Facts))], [(12, .box [.snil, .snil, .snil, .snil]), (253, .arr ⟨false, true⟩ 2 184 (List.map a_Term j0.1)), (493, .arr ⟨false, true⟩ 2 184 (List.map a_Term j0.2.1)), (733, .arr ⟨false, true⟩ 2 40 (List.map a_Instr j0.2.2)), (893, .box [.ow 253, .ow 493, .ow 733, .ow 70005]), (2895, .box [.int .i64 x0.At, .sl 2 (List.map a_Term x0.Facts)]), (70005, .arr ⟨false, true⟩ 2 81 (List.map a_Point s0))]⟩ ?_ (fun hS2895_8 => ?_)
      · refine TZ_each [1, 6] (by kernel_rfl) rfl ?_
        refine ⟨?_, ?_⟩
        · refine ⟨_, rfl, ?_⟩
          refine TL_pure rfl rfl rfl rfl (op_load_one ag67 rfl rfl) ?_
          refine TL_nil ?_
          refine TZ_keepH [2, 3, 5, 17, 18, 19, 20, 21, 22, 23, 24, 25, 26, 27, 28] [12, 253, 493, 733, 893, 2895, 70005] rfl rfl rfl rfl (by rw [hF]; rfl) ?_
          exact hS2895_1
        · refine ⟨_, rfl, ?_⟩
          refine TL_callO [(1000, 3456)] (ACall.F (F := F) (c_impl_ownTerms x0.Facts r29 hr29)) Try.call106 rfl rfl rfl rfl rfl rfl rfl rfl rfl rfl rfl rfl rfl ?_
          refine TL_nil ?_
          refine TZ_keepH [2, 3, 5, 17, 18, 19, 20, 21, 22, 23, 25, 26, 27, 28, 29] [12, 253, 493, 733, 893, 2895, 3456, 70005] rfl rfl rfl rfl (by rw [hF]; rfl) ?_
          exact hS2895_7
      refine TZ_cut 8 [true, false, true, true, true, false, false, false, false, false, false, false] ⟨[(2, .ptr 12 0 0), (3, .ptr 893 0 0), (5, .ptr 2895 0 0), (17, .sl 2 (List.map a_Point p0.Points)), (18, .int .i64 (p0.Points.length : Int)), (19, .int .i64 (n0 : Int)), (20, .bool (decide ((n0 : Int) < (p0.Points.length : Int)))), (21, .cp [.int .i64 x0.At, .sl 2 (List.map a_Term x0.Facts)]), (22, .agg [.int .i64 x0.At, .sl 2 (List.map a_Term x0.Facts)]), (23, .ptr 893 0 3), (25, .ptr 2895 0 0), (26, .int .i64 x0.At), (27, .ptr 2895 0 1)], [(12, .box [.snil, .snil, .snil, .snil]), (253, .arr ⟨false, true⟩ 2 184 (List.map a_Term j0.1)), (493, .arr ⟨false, true⟩ 2 184 (List.map a_Term j0.2.1)), (733, .arr ⟨false, true⟩ 2 40 (List.map a_Instr j0.2.2)), (893, .box [.ow 253, .ow 493, .ow 733, .ow 70005]), (2895, .box [.int .i64 x0.At, .sl 2 (List.map a_Term x0.Facts)]), (70005, .arr ⟨false, true⟩ 2 81 (List.map a_Point s0))]⟩ ?_ (fun hS2895_9 => ?_)
      · refine TZ_each [1, 5] (by kernel_rfl) rfl ?_
        refine ⟨?_, ?_⟩
        · refine ⟨_, rfl, ?_⟩
          refine TL_pure rfl rfl rfl rfl (op_load_one ag67 rfl rfl) ?_
          refine TL_nil ?_
          refine TZ_keepH [2, 3, 5, 17, 18, 19, 20, 21, 22, 23, 24, 25, 26, 27] [12, 253, 493, 733, 893, 2895, 70005] rfl rfl rfl rfl (by rw [hF]; rfl) ?_
          exact hS2895_0
        · refine ⟨_, rfl, ?_⟩
          refine TL_pure rfl rfl rfl rfl (op_load_one ag66 rfl rfl) ?_
          refine TL_nil ?_
          refine TZ_keepH [2, 3, 5, 17, 18, 19, 20, 21, 22, 23, 25, 26, 27, 28] [12, 253, 493, 733, 893, 2895, 70005] rfl rfl rfl rfl (by rw [hF]; rfl) ?_
          exact hS2895_8
      refine TZ_cut 7 [true, false, true, false, true, true, true, false, false, false, false, false] ⟨[(2, .ptr 12 0 0), (3, .ptr 893 0 0), (5, .ptr 2895 0 0), (17, .sl 2 (List.map a_Point p0.Points)), (18, .int .i64 (p0.Points.length : Int)), (19, .int .i64 (n0 : Int)), (20, .bool (decide ((n0 : Int) < (p0.Points.length : Int)))), (21, .cp [.int .i64 x0.At, .sl 2 (List.map a_Term x0.Facts)]), (22, .agg [.int .i64 x0.At, .sl 2 (List.map a_Term x0.Facts)]), (23, .ptr 893 0 3), (25, .ptr 2895 0 0), (27, .ptr 2895 0 1), (28, .sl 2 (List.map a_Term x0.Facts)), (29, .ow 3456)], [(12, .box [.snil, .snil, .snil, .snil]), (253, .arr ⟨false, true⟩ 2 184 (List.map a_Term j0.1)), (493, .arr ⟨false, true⟩ 2 184 (List.map a_Term j0.2.1)), (733, .arr ⟨false, true⟩ 2 40 (List.map a_Instr j0.2.2)), (893, .box [.ow 253, .ow 493, .ow 733, .ow 70005]), (2895, .box [.int .i64 x0.At, .sl 2 (List.map a_Term x0.Facts)]), (3456, .arr ⟨false, true⟩ 2 184 (List.map a_Term r29)), (70005, .arr ⟨false, true⟩ 2 81 (List.map a_Point s0))]⟩ ?_ (fun hS2895_10 => ?_)
      · refine TZ_each [1, 3] (by kernel_rfl) rfl ?_
        refine ⟨?_, ?_⟩
        · refine ⟨_, rfl, ?_⟩
          refine TL_pure rfl rfl rfl rfl (op_load_one ag67 rfl rfl) ?_
          refine TL_nil ?_
          refine TZ_keepH [2, 3, 5, 17, 18, 19, 20, 21, 22, 23, 24, 25, 27, 28, 29] [12, 253, 493, 733, 893, 2895, 3456, 70005] rfl rfl rfl rfl (by rw [hF]; rfl) ?_
          exact hS2895_2
        · refine ⟨_, rfl, ?_⟩
          refine TL_pure rfl rfl rfl rfl (op_load_one ag2 rfl rfl) ?_
          refine TL_nil ?_
          refine TZ_keepH [2, 3, 5, 17, 18, 19, 20, 21, 22, 23, 25, 26, 27, 28, 29] [12, 253, 493, 733, 893, 2895, 3456, 70005] rfl rfl rfl rfl (by rw [hF]; rfl) ?_
          exact hS2895_7
      refine TZ_cut 8 [true, false, true, false, true, true, false, false, false, false, false, false] ⟨[(2, .ptr 12 0 0), (3, .ptr 893 0 0), (5, .ptr 2895 0 0), (17, .sl 2 (List.map a_Point p0.Points)), (18, .int .i64 (p0.Points.length : Int)), (19, .int .i64 (n0 : Int)), (20, .bool (decide ((n0 : Int) < (p0.Points.length : Int)))), (21, .cp [.int .i64 x0.At, .sl 2 (List.map a_Term x0.Facts)]), (22, .agg [.int .i64 x0.At, .sl 2 (List.map a_Term x0.Facts)]), (23, .ptr 893 0 3), (25, .ptr 2895 0 0), (27, .ptr 2895 0 1), (28, .sl 2 (List.map a_Term x0.Facts))], [(12, .box [.snil, .snil, .snil, .snil]), (253, .arr ⟨false, true⟩ 2 184 (List.map a_Term j0.1)), (493, .arr ⟨false, true⟩ 2 184 (List.map a_Term j0.2.1)), (733, .arr ⟨false, true⟩ 2 40 (List.map a_Instr j0.2.2)), (893, .box [.ow 253, .ow 493, .ow 733, .ow 70005]), (2895, .box [.int .i64 x0.At, .sl 2 (List.map a_Term x0.Facts)]), (70005, .arr ⟨false, true⟩ 2 81 (List.map a_Point s0))]⟩ ?_ (fun hS2895_11 => ?_)
      · refine TZ_each [1, 3, 6] (by kernel_rfl) rfl ?_
        refine ⟨?_, ?_, ?_⟩
        · refine ⟨_, rfl, ?_⟩
          refine TL_pure rfl rfl rfl rfl (op_load_one ag67 rfl rfl) ?_
          refine TL_nil ?_
          refine TZ_keepH [2, 3, 5, 17, 18, 19, 20, 21, 22, 23, 24, 25, 27, 28] [12, 253, 493, 733, 893, 2895, 70005] rfl rfl rfl rfl (by rw [hF]; rfl) ?_
          exact hS2895_3
        · refine ⟨_, rfl, ?_⟩
          refine TL_pure rfl rfl rfl rfl (op_load_one ag2 rfl rfl) ?_
          refine TL_nil ?_
          refine TZ_keepH [2, 3, 5, 17, 18, 19, 20, 21, 22, 23, 25, 26, 27, 28] [12, 253, 493, 733, 893, 2895, 70005] rfl rfl rfl rfl (by rw [hF]; rfl) ?_
          exact hS2895_8
        · refine ⟨_, rfl, ?_⟩
          refine TL_callO [(1000, 3456)] (ACall.F (F := F) (c_impl_ownTerms x0.Facts r29 hr29)) Try.call106 rfl rfl rfl rfl rfl rfl rfl rfl rfl rfl rfl rfl rfl ?_
          refine TL_nil ?_
          refine TZ_keepH [2, 3, 5, 17, 18, 19, 20, 21, 22, 23, 25, 27, 28, 29] [12, 253, 493, 733, 893, 2895, 3456, 70005] rfl rfl rfl rfl (by rw [hF]; rfl) ?_
          exact hS2895_10
      refine TZ_each [1, 3, 5] (by kernel_rfl) rfl ?_
      refine ⟨?_, ?_, ?_⟩
      · refine ⟨_, rfl, ?_⟩
        refine TL_pure rfl rfl rfl rfl (op_load_one ag67 rfl rfl) ?_
        refine TL_nil ?_
        refine TZ_keepH [2, 3, 5, 17, 18, 19, 20, 21, 22, 23, 24, 25, 27] [12, 253, 493, 733, 893, 2895, 70005] rfl rfl rfl rfl (by rw [hF]; rfl) ?_
        exact hS2895_4
      · refine ⟨_, rfl, ?_⟩
        refine TL_pure rfl rfl rfl rfl (op_load_one ag2 rfl rfl) ?_
        refine TL_nil ?_
        refine TZ_keepH [2, 3, 5, 17, 18, 19, 20, 21, 22, 23, 25, 26, 27] [12, 253, 493, 733, 893, 2895, 70005] rfl rfl rfl rfl (by rw [hF]; rfl) ?_
        exact hS2895_9
      · refine ⟨_, rfl, ?_⟩
        refine TL_pure rfl rfl rfl rfl (op_load_one ag66 rfl rfl) ?_
        refine TL_nil ?_
        refine TZ_keepH [2, 3, 5, 17, 18, 19, 20, 21, 22, 23, 25, 27, 28] [12, 253, 493, 733, 893, 2895, 70005] rfl rfl rfl rfl (by rw [hF]; rfl) ?_
        exact hS2895_11
  · refine T_drawZ [11] mix (by kernel_rfl) rfl ?_
    obtain ⟨r8, hr8, hm⟩ := bindS hm
    obtain ⟨r11, hr11, hm⟩ := bindS hm
    obtain ⟨r14, hr14, hm⟩ := bindS hm
    refine TZ_pure 0 (by kernel_rfl) rfl rfl rfl rfl rfl (op_fieldAddr fa69_0 rfl rfl) ?_
    refine TZ_pure 1 (by kernel_rfl) rfl rfl rfl rfl rfl (op_load_one ag66 rfl rfl) ?_
    refine TZ_pure 3 (by kernel_rfl) rfl rfl rfl rfl rfl (op_fieldAddr fa69_1 rfl rfl) ?_
    refine TZ_pure 4 (by kernel_rfl) rfl rfl rfl rfl rfl (op_load_one ag66 rfl rfl) ?_
    refine TZ_pure 6 (by kernel_rfl) rfl rfl rfl rfl rfl (op_fieldAddr fa69_2 rfl rfl) ?_
    refine TZ_pure 7 (by kernel_rfl) rfl rfl rfl rfl rfl (op_load_one ag24 rfl rfl) ?_
    refine TZ_cut 3 [true, true, true, true, true, true, true, true, true, false, false, false] ⟨[(0, .agg [.sl 2 (List.map a_Term p0.Pre), .sl 2 (List.map a_Term p0.Post), .sl 2 (List.map a_Instr p0.Code), .sl 2 (List.map a_Point p0.Points)]), (1, .ptr 11 0 0), (2, .ptr 12 0 0), (6, .ptr 11 0 0), (7, .sl 2 (List.map a_Term p0.Pre)), (8, .ow 4097), (9, .ptr 11 0 1), (10, .sl 2 (List.map a_Term p0.Post)), (11, .ow 4337), (12, .ptr 11 0 2), (13, .sl 2 (List.map a_Instr p0.Code)), (14, .ow 4577)], [(11, .box [.sl 2 (List.map a_Term p0.Pre), .sl 2 (List.map a_Term p0.Post), .sl 2 (List.map a_Instr p0.Code), .sl 2 (List.map a_Point p0.Points)]), (12, .box [.snil, .snil, .snil, .snil]), (4097, .arr ⟨false, true⟩ 2 184 (List.map a_Term r8)), (4337, .arr ⟨false, true⟩ 2 184 (List.map a_Term r11)), (4577, .arr ⟨false, true⟩ 2 40 (List.map a_Instr r14))]⟩ ?_ (fun hS3856_0 => ?_)
    · refine TZ_pure 9 (by kernel_rfl) rfl rfl rfl rfl rfl (op_buildP pl69 z69 rfl rfl rfl rfl rfl) ?_
      refine TZ_one 10 (by kernel_rfl) rfl ?_
      refine TL_alloc 4737 z69 rfl rfl rfl rfl rfl rfl rfl ?_
      refine TL_nil ?_
      refine TZ_one 11 (by kernel_rfl) rfl ?_
      refine TL_store_box sz69 rfl rfl rfl rfl rfl rfl rfl rfl rfl ?_
      refine TL_nil ?_
      refine TZ_done (by kernel_rfl) ?_
      refine T_keepH [1, 2, 3] [11, 12, 4097, 4337, 4577, 4737] rfl rfl rfl rfl (by rw [hF]; rfl) ?_
      refine T_ren [(11, 11), (12, 12), (4097, 253), (4337, 493), (4577, 733), (4737, 893)] rfl rfl rfl (by rw [hF]; rfl) ?_
      exact hj0 (r8, r11, r14) hm
    refine TZ_cut 3 [true, true, true, true, true, true, true, true, false, false, true, false] ⟨[(0, .agg [.sl 2 (List.map a_Term p0.Pre), .sl 2 (List.map a_Term p0.Post), .sl 2 (List.map a_Instr p0.Code), .sl 2 (List.map a_Point p0.Points)]), (1, .ptr 11 0 0), (2, .ptr 12 0 0), (3, .ptr 4737 0 0), (6, .ptr 11 0 0), (7, .sl 2 (List.map a_Term p0.Pre)), (8, .ow 4097), (9, .ptr 11 0 1), (10, .sl 2 (List.map a_Term p0.Post)), (11, .ow 4337), (12, .ptr 11 0 2), (13, .sl 2 (List.map a_Instr p0.Code))], [(11, .box [.sl 2 (List.map a_Term p0.Pre), .sl 2 (List.map a_Term p0.Post), .sl 2 (List.map a_Instr p0.Code), .sl 2 (List.map a_Point p0.Points)]), (12, .box [.snil, .snil, .snil, .snil]), (4097, .arr ⟨false, true⟩ 2 184 (List.map a_Term r8)), (4337, .arr ⟨false, true⟩ 2 184 (List.map a_Term r11)), (4737, .box [.snil, .snil, .snil, .snil])]⟩ ?_ (fun hS3856_1 => ?_)
    · refine TZ_one 8 (by kernel_rfl) rfl ?_
      refine TL_callO [(1000, 4577)] (ACall.F (F := F) (c_slices_Clone_impl_Instr_impl_Instr p0.Code r14 hr14)) Try.call150 rfl rfl rfl rfl rfl rfl rfl rfl rfl rfl rfl rfl rfl ?_
      refine TL_nil ?_
      refine TZ_pure 9 (by kernel_rfl) rfl rfl rfl rfl rfl (op_buildP pl69 z69 rfl rfl rfl rfl rfl) ?_
      refine TZ_one 11 (by kernel_rfl) rfl ?_
      refine TL_store_box sz69 rfl rfl rfl rfl rfl rfl rfl rfl rfl ?_
      refine TL_nil ?_
      refine TZ_done (by kernel_rfl) ?_
      refine T_keepH [1, 2, 3] [11, 12, 4097, 4337, 4577, 4737] rfl rfl rfl rfl (by rw [hF]; rfl) ?_
      refine T_ren [(11, 11), (12, 12), (4097, 253), (4337, 493), (4577, 733), (4737, 893)] rfl rfl rfl (by rw [hF]; rfl) ?_
      exact hj0 (r8, r11, r14) hm
    refine TZ_cut 4 [true, true, true, true, true, true, true, true, false, false, false, false] ⟨[(0, .agg [.sl 2 (List.map a_Term p0.Pre), .sl 2 (List.map a_Term p0.Post), .sl 2 (List.map a_Instr p0.Code), .sl 2 (List.map a_Point p0.Points)]), (1, .ptr 11 0 0), (2, .ptr 12 0 0), (6, .ptr 11 0 0), (7, .sl 2 (List.map a_Term p0.Pre)), (8, .ow 4097), (9, .ptr 11 0 1), (10, .sl 2 (List.map a_Term p0.Post)), (11, .ow 4337), (12, .ptr 11 0 2), (13, .sl 2 (List.map a_Instr p0.Code))], [(11, .box [.sl 2 (List.map a_Term p0.Pre), .sl 2 (List.map a_Term p0.Post), .sl 2 (List.map a_Instr p0.Code), .sl 2 (List.map a_Point p0.Points)]), (12, .box [.snil, .snil, .snil, .snil]), (4097, .arr ⟨false, true⟩ 2 184 (List.map a_Term r8)), (4337, .arr ⟨false, true⟩ 2 184 (List.map a_Term r11))]⟩ ?_ (fun hS3856_2 => ?_)
    · refine TZ_each [8, 10] (by kernel_rfl) rfl ?_
      refine ⟨?_, ?_⟩
      · refine ⟨_, rfl, ?_⟩
        refine TL_callO [(1000, 4577)] (ACall.F (F := F) (c_slices_Clone_impl_Instr_impl_Instr p0.Code r14 hr14)) Try.call150 rfl rfl rfl rfl rfl rfl rfl rfl rfl rfl rfl rfl rfl ?_
        refine TL_nil ?_
        refine TZ_keepH [0, 1, 2, 6, 7, 8, 9, 10, 11, 12, 13, 14] [11, 12, 4097, 4337, 4577] rfl rfl rfl rfl (by rw [hF]; rfl) ?_
        exact hS3856_0
      · refine ⟨_, rfl, ?_⟩
        refine TL_alloc 4737 z69 rfl rfl rfl rfl rfl rfl rfl ?_
        refine TL_nil ?_
        refine TZ_keepH [0, 1, 2, 3, 6, 7, 8, 9, 10, 11, 12, 13] [11, 12, 4097, 4337, 4737] rfl rfl rfl rfl (by rw [hF]; rfl) ?_
        exact hS3856_1
    refine TZ_cut 4 [true, true, true, true, true, false, true, true, false, false, true, false] ⟨[(0, .agg [.sl 2 (List.map a_Term p0.Pre), .sl 2 (List.map a_Term p0.Post), .sl 2 (List.map a_Instr p0.Code), .sl 2 (List.map a_Point p0.Points)]), (1, .ptr 11 0 0), (2, .ptr 12 0 0), (3, .ptr 4737 0 0), (6, .ptr 11 0 0), (7, .sl 2 (List.map a_Term p0.Pre)), (8, .ow 4097), (9, .ptr 11 0 1), (10, .sl 2 (List.map a_Term p0.Post)), (12, .ptr 11 0 2), (13, .sl 2 (List.map a_Instr p0.Code))], [(11, .box [.sl 2 (List.map a_Term p0.Pre), .sl 2 (List.map a_Term p0.Post), .sl 2 (List.map a_Instr p0.Code), .sl 2 (List.map a_Point p0.Points)]), (12, .box [.snil, .snil, .snil, .snil]), (4097, .arr ⟨false, true⟩ 2 184 (List.map a_Term r8)), (4737, .box [.snil, .snil, .snil, .snil])]⟩ ?_ (fun hS3856_3 => ?_)
    · refine TZ_one 5 (by kernel_rfl) rfl ?_
      refine TL_callO [(1000, 4337)] (ACall.F (F := F) (c_impl_ownTerms p0.Post r11 hr11)) Try.call106 rfl rfl rfl rfl rfl rfl rfl rfl rfl rfl rfl rfl rfl ?_
      refine TL_nil ?_
      refine TZ_one 8 (by kernel_rfl) rfl ?_
      refine TL_callO [(1000, 4577)] (ACall.F (F := F) (c_slices_Clone_impl_Instr_impl_Instr p0.Code r14 hr14)) Try.call150 rfl rfl rfl rfl rfl rfl rfl rfl rfl rfl rfl rfl rfl ?_
      refine TL_nil ?_
      refine TZ_pure 9 (by kernel_rfl) rfl rfl rfl rfl rfl (op_buildP pl69 z69 rfl rfl rfl rfl rfl) ?_
      refine TZ_one 11 (by kernel_rfl) rfl ?_
      refine TL_store_box sz69 rfl rfl rfl rfl rfl rfl rfl rfl rfl ?_
      refine TL_nil ?_
      refine TZ_done (by kernel_rfl) ?_
      refine T_keepH [1, 2, 3] [11, 12, 4097, 4337, 4577, 4737] rfl rfl rfl rfl (by rw [hF]; rfl) ?_
      refine T_ren [(11, 11), (12, 12), (4097, 253), (4337, 493), (4577, 733), (4737, 893)] rfl rfl rfl (by rw [hF]; rfl) ?_
      exact hj0 (r8, r11, r14) hm
    refine TZ_cut 5 [true, true, true, true, true, false, true, true, false, false, false, false] ⟨[(0, .agg [.sl 2 (List.map a_Term p0.Pre), .sl 2 (List.map a_Term p0.Post), .sl 2 (List.map a_Instr p0.Code), .sl 2 (List.map a_Point p0.Points)]), (1, .ptr 11 0 0), (2, .ptr 12 0 0), (6, .ptr 11 0 0), (7, .sl 2 (List.map a_Term p0.Pre)), (8, .ow 4097), (9, .ptr 11 0 1), (10, .sl 2 (List.map a_Term p0.Post)), (12, .ptr 11 0 2), (13, .sl 2 (List.map a_Instr p0.Code))], [(11, .box [.sl 2 (List.map a_Term p0.Pre), .sl 2 (List.map a_Term p0.Post), .sl 2 (List.map a_Instr p0.Code), .sl 2 (List.map a_Point p0.Points)]), (12, .box [.snil, .snil, .snil, .snil]), (4097, .arr ⟨false, true⟩ 2 184 (List.map a_Term r8))]⟩ ?_ (fun hS3856_4 => ?_)
    · refine TZ_each [5, 10] (by kernel_rfl) rfl ?_
      refine ⟨?_, ?_⟩
      · refine ⟨_, rfl, ?_⟩
        refine TL_callO [(1000, 4337)] (ACall.F (F := F) (c_impl_ownTerms p0.Post r11 hr11)) Try.call106 rfl rfl rfl rfl rfl rfl rfl rfl rfl rfl rfl rfl rfl ?_
        refine TL_nil ?_
        refine TZ_keepH [0, 1, 2, 6, 7, 8, 9, 10, 11, 12, 13] [11, 12, 4097, 4337] rfl rfl rfl rfl (by rw [hF]; rfl) ?_
        exact hS3856_2
      · refine ⟨_, rfl, ?_⟩
        refine TL_alloc 4737 z69 rfl rfl rfl rfl rfl rfl rfl ?_
        refine TL_nil ?_
        refine TZ_keepH [0, 1, 2, 3, 6, 7, 8, 9, 10, 12, 13] [11, 12, 4097, 4737] rfl rfl rfl rfl (by rw [hF]; rfl) ?_
        exact hS3856_3
    refine TZ_cut 5 [true, true, false, true, true, false, true, true, false, false, true, false] ⟨[(0, .agg [.sl 2 (List.map a_Term p0.Pre), .sl 2 (List.map a_Term p0.Post), .sl 2 (List.map a_Instr p0.Code), .sl 2 (List.map a_Point p0.Points)]), (1, .ptr 11 0 0), (2, .ptr 12 0 0), (3, .ptr 4737 0 0), (6, .ptr 11 0 0), (7, .sl 2 (List.map a_Term p0.Pre)), (9, .ptr 11 0 1), (10, .sl 2 (List.map a_Term p0.Post)), (12, .ptr 11 0 2), (13, .sl 2 (List.map a_Instr p0.Code))], [(11, .box [.sl 2 (List.map a_Term p0.Pre), .sl 2 (List.map a_Term p0.Post), .sl 2 (List.map a_Instr p0.Code), .sl 2 (List.map a_Point p0.Points)]), (12, .box [.snil, .snil, .snil, .snil]), (4737, .box [.snil, .snil, .snil, .snil])]⟩ ?_ (fun hS3856_5 => ?_)
    · refine TZ_one 2 (by kernel_rfl) rfl ?_
      refine TL_callO [(1000, 4097)] (ACall.F (F := F) (c_impl_ownTerms p0.Pre r8 hr8)) Try.call106 rfl rfl rfl rfl rfl rfl rfl rfl rfl rfl rfl rfl rfl ?_
      refine TL_nil ?_
      refine TZ_one 5 (by kernel_rfl) rfl ?_
      refine TL_callO [(1000, 4337)] (ACall.F (F := F) (c_impl_ownTerms p0.Post r11 hr11)) Try.call106 rfl rfl rfl rfl rfl rfl rfl rfl rfl rfl rfl rfl rfl ?_
      refine TL_nil ?_
      refine TZ_one 8 (by kernel_rfl) rfl ?_
      refine TL_callO [(1000, 4577)] (ACall.F (F := F) (c_slices_Clone_impl_Instr_impl_Instr p0.Code r14 hr14)) Try.call150 rfl rfl rfl rfl rfl rfl rfl rfl rfl rfl rfl rfl rfl ?_
      refine TL_nil ?_
      refine TZ_pure 9 (by kernel_rfl) rfl rfl rfl rfl rfl (op_buildP pl69 z69 rfl rfl rfl rfl rfl) ?_
      refine TZ_one 11 (by kernel_rfl) rfl ?_
      refine TL_store_box sz69 rfl rfl rfl rfl rfl rfl rfl rfl rfl ?_
      refine TL_nil ?_
      refine TZ_done (by kernel_rfl) ?_
      refine T_keepH [1, 2, 3] [11, 12, 4097, 4337, 4577, 4737] rfl rfl rfl rfl (by rw [hF]; rfl) ?_
      refine T_ren [(11, 11), (12, 12), (4097, 253), (4337, 493), (4577, 733), (4737, 893)] rfl rfl rfl (by rw [hF]; rfl) ?_
      exact hj0 (r8, r11, r14) hm
    refine TZ_each [2, 10] (by kernel_rfl) rfl ?_
    refine ⟨?_, ?_⟩
    · refine ⟨_, rfl, ?_⟩
      refine TL_callO [(1000, 4097)] (ACall.F (F := F) (c_impl_ownTerms p0.Pre r8 hr8)) Try.call106 rfl rfl rfl rfl rfl rfl rfl rfl rfl rfl rfl rfl rfl ?_
      refine TL_nil ?_
      refine TZ_keepH [0, 1, 2, 6, 7, 8, 9, 10, 12, 13] [11, 12, 4097] rfl rfl rfl rfl (by rw [hF]; rfl) ?_
      exact hS3856_4
    · refine ⟨_, rfl, ?_⟩
      refine TL_alloc 4737 z69 rfl rfl rfl rfl rfl rfl rfl ?_
      refine TL_nil ?_
      refine TZ_keepH [0, 1, 2, 3, 6, 7, 9, 10, 12, 13] [11, 12, 4737] rfl rfl rfl rfl (by rw [hF]; rfl) ?_
      exact hS3856_5
theorem c_impl_DropPoint (p0 : Annotated) (p1 : Int) (out : Annotated × Bool) (hm : m_impl_DropPoint p0 p1 = some out) : ACall Try.prog 57 [.agg [.sl 2 (List.map a_Term p0.Pre), .sl 2 (List.map a_Term p0.Post), .sl 2 (List.map a_Instr p0.Code), .sl 2 (List.map a_Point p0.Points)], .int .i64 p1] [] (.tup [.agg [.ow 1000, .ow 1001, .ow 1002, .ow 1003], .bool out.2]) [(1000, .arr ⟨false, true⟩ 2 184 (List.map a_Term out.1.Pre)), (1001, .arr ⟨false, true⟩ 2 184 (List.map a_Term out.1.Post)), (1002, .arr ⟨false, true⟩ 2 40 (List.map a_Instr out.1.Code)), (1003, .arr ⟨false, true⟩ 2 81 (List.map a_Point out.1.Points))] := by
  refine ACall.intro Try.func57 rfl Try.ntmps57 rfl (fun F hF => ?_)
  unfold m_impl_DropPoint at hm
  refine T_seq ?_
  refine T_region ?_
  refine TL_box 11 rfl rfl rfl rfl rfl rfl rfl ?_
  refine TL_alloc 12 z69 rfl rfl rfl rfl rfl rfl rfl ?_
  refine TL_pure rfl rfl rfl rfl (op_assign rfl) ?_
  refine TL_nil ?_
  refine T_seq ?_
  refine T_seq ?_
  refine T_region ?_
  refine TL_pure rfl rfl rfl rfl (op_load_agg ag69 sz69 rfl rfl rfl) ?_
  obtain ⟨r8, hr8, hm⟩ := bindS hm
  refine TL_callF (ACall.F (F := F) (c_impl_ValidAnnotated p0 r8 hr8)) Try.call89 rfl rfl rfl rfl rfl ?_
  refine TL_pure rfl rfl rfl rfl (op_not rfl) ?_
  refine TL_pure rfl rfl rfl rfl (op_move rfl) ?_
  refine TL_split 10 rfl rfl rfl (fun hq => ?_) (fun hq => ?_)
  · replace hm := condT hq hm
    refine TL_pass rfl rfl rfl rfl rfl rfl rfl ?_
    refine TL_pass rfl rfl rfl rfl rfl rfl rfl ?_
    refine TL_pass rfl rfl rfl rfl rfl rfl rfl ?_
    refine TL_pass rfl rfl rfl rfl rfl rfl rfl ?_
    refine TL_pass rfl rfl rfl rfl rfl rfl rfl ?_
    refine TL_pass rfl rfl rfl rfl rfl rfl rfl ?_
    refine TL_pure rfl rfl rfl rfl (op_pick_true rfl rfl) ?_
    refine TL_nil ?_
    refine T_cond_true rfl ?_
    refine T_seq ?_
    refine T_region ?_
    refine TL_pure rfl rfl rfl rfl (op_buildP pl69 z69 rfl rfl rfl rfl rfl) ?_
    refine TL_store_box sz69 rfl rfl rfl rfl rfl rfl rfl rfl rfl ?_
    refine TL_pure rfl rfl rfl rfl (op_assign rfl) ?_
    refine TL_nil ?_
    refine T_ownNilBox 12 0 13 ⟨false, true⟩ 184 rfl rfl rfl (sz := 2) rfl rfl rfl rfl ?_
    refine T_ownNilBox 12 1 14 ⟨false, true⟩ 184 rfl rfl rfl (sz := 2) rfl rfl rfl rfl ?_
    refine T_ownNilBox 12 2 15 ⟨false, true⟩ 40 rfl rfl rfl (sz := 2) rfl rfl rfl rfl ?_
    refine T_ownNilBox 12 3 16 ⟨false, true⟩ 81 rfl rfl rfl (sz := 2) rfl rfl rfl rfl ?_
    refine T_keepH [4, 5] [12, 13, 14, 15, 16] rfl rfl rfl rfl (by rw [hF]; rfl) ?_
    refine T_ren [(12, 12), (13, 1000), (14, 1001), (15, 1002), (16, 1003)] rfl rfl rfl (by rw [hF]; rfl) ?_
    refine T_ret ?_
    obtain rfl := someI hm
    refine ⟨[_, _], [1000, 1001, 1002, 1003], ⟨⟨_, _, rfl, rfl, .inr ⟨ag69, _, _, sz69, rfl, rfl⟩⟩, rfl, trivial⟩, ?_, rfl, rfl, rfl, rfl⟩
    rfl
  · replace hm := condF hq hm
    refine TL_want rfl rfl ?_
    refine TL_pure rfl rfl rfl rfl (op_move rfl) ?_
    refine TL_want rfl rfl ?_
    refine TL_pure rfl rfl rfl rfl (op_fieldAddr fa69_3 rfl rfl) ?_
    refine TL_want rfl rfl ?_
    refine TL_pure rfl rfl rfl rfl (op_load_one ag67 rfl rfl) ?_
    refine TL_want rfl rfl ?_
    refine TL_pure rfl rfl rfl rfl (op_lenT Try.underlying67 rfl (List.length_map _)) ?_
    refine TL_fact (fun _ _ _ hr => RelP.slLen (i := 13) rfl hr) (fun hlen14 => ?_)
    rw [List.length_map] at hlen14
    refine TL_want rfl rfl ?_
    obtain ⟨r15, hr15, hm⟩ := bindS hm
    refine TL_callF (ACall.F (F := F) (c_impl_isIndex p1 (p0.Points.length : Int) r15 hr15)) Try.call92 rfl rfl rfl rfl rfl ?_
    refine TL_want rfl rfl ?_
    refine TL_pure rfl rfl rfl rfl (op_not rfl) ?_
    refine TL_pure rfl rfl rfl rfl (op_pick_false rfl rfl) ?_
    refine TL_nil ?_
    refine T_cond rfl (fun hq => ?_) (fun hq => ?_)
    · replace hm := condT hq hm
      refine T_seq ?_
      refine T_region ?_
      refine TL_pure rfl rfl rfl rfl (op_buildP pl69 z69 rfl rfl rfl rfl rfl) ?_
      refine TL_store_box sz69 rfl rfl rfl rfl rfl rfl rfl rfl rfl ?_
      refine TL_pure rfl rfl rfl rfl (op_assign rfl) ?_
      refine TL_nil ?_
      refine T_ownNilBox 12 0 17 ⟨false, true⟩ 184 rfl rfl rfl (sz := 2) rfl rfl rfl rfl ?_
      refine T_ownNilBox 12 1 18 ⟨false, true⟩ 184 rfl rfl rfl (sz := 2) rfl rfl rfl rfl ?_
      refine T_ownNilBox 12 2 19 ⟨false, true⟩ 40 rfl rfl rfl (sz := 2) rfl rfl rfl rfl ?_
      refine T_ownNilBox 12 3 20 ⟨false, true⟩ 81 rfl rfl rfl (sz := 2) rfl rfl rfl rfl ?_
      refine T_keepH [4, 5] [12, 17, 18, 19, 20] rfl rfl rfl rfl (by rw [hF]; rfl) ?_
      refine T_ren [(12, 12), (17, 1000), (18, 1001), (19, 1002), (20, 1003)] rfl rfl rfl (by rw [hF]; rfl) ?_
      refine T_ret ?_
      obtain rfl := someI hm
      refine ⟨[_, _], [1000, 1001, 1002, 1003], ⟨⟨_, _, rfl, rfl, .inr ⟨ag69, _, _, sz69, rfl, rfl⟩⟩, rfl, trivial⟩, ?_, rfl, rfl, rfl, rfl⟩
      rfl
    · replace hm := condF hq hm
      refine T_skip ?_
      refine T_seq ?_
      refine T_region ?_
      refine TL_pure rfl rfl rfl rfl (op_load_agg ag69 sz69 rfl rfl rfl) ?_
      obtain ⟨r20, hr20, hm⟩ := bindS hm
      refine TL_callO [(1000, 21), (1001, 22), (1002, 23), (1003, 24)] (ACall.F (F := F) (c_impl_Annotated_own p0 r20 hr20)) Try.call90 rfl rfl rfl rfl rfl rfl rfl rfl rfl rfl rfl rfl rfl ?_
      refine TL_alloc 25 z69 rfl rfl rfl rfl rfl rfl rfl ?_
      refine TL_store_box sz69 rfl rfl rfl rfl rfl rfl rfl rfl rfl ?_
      refine TL_nil ?_
      refine T_seq ?_
      refine T_region ?_
      refine TL_pure rfl rfl rfl rfl (op_fieldAddr fa69_3 rfl rfl) ?_
      refine TL_pure rfl rfl rfl rfl (op_load_one ag67 rfl rfl) ?_
      refine TL_pure rfl rfl rfl rfl (op_move rfl) ?_
      refine TL_pure rfl rfl rfl rfl (op_move rfl) ?_
      refine TL_pure rfl rfl rfl rfl (op_addW rfl rfl) ?_
      obtain ⟨r26, hr26, hm⟩ := bindS hm
      refine TL_deleteD (f := a_Point) (l := r20.Points) hr26 Try.call109 rfl rfl rfl rfl rfl rfl rfl rfl rfl ?_
      refine TL_pure rfl rfl rfl rfl (op_fieldAddr fa69_3 rfl rfl) ?_
      refine TL_store_box sz67 rfl rfl rfl rfl rfl rfl rfl rfl rfl ?_
      refine TL_nil ?_
      refine T_seq ?_
      refine T_region ?_
      refine TL_pure rfl rfl rfl rfl (op_load_agg ag69 sz69 rfl rfl rfl) ?_
      refine TL_store_box sz69 rfl rfl rfl rfl rfl rfl rfl rfl rfl ?_
      refine TL_pure rfl rfl rfl rfl (op_assign rfl) ?_
      refine TL_nil ?_
      refine T_keepH [4, 5] [12, 21, 22, 23, 24] rfl rfl rfl rfl (by rw [hF]; rfl) ?_
      refine T_ren [(12, 12), (21, 1000), (22, 1001), (23, 1002), (24, 1003)] rfl rfl rfl (by rw [hF]; rfl) ?_
      refine T_ret ?_
      obtain rfl := someI hm
      refine ⟨[_, _], [1000, 1001, 1002, 1003], ⟨⟨_, _, rfl, rfl, .inr ⟨ag69, _, _, sz69, rfl, rfl⟩⟩, rfl, trivial⟩, ?_, rfl, rfl, rfl, rfl⟩
      rfl
theorem c_laws_eqInt64S (p0 : List Int) (p1 : List Int) (out : Bool) (hm : m_laws_eqInt64S p0 p1 = some out) : ACall Try.prog 26 [.sl 1 (List.map a_i64 p0), .sl 1 (List.map a_i64 p1)] [] (.bool out) [] := by
  refine ACall.intro Try.func26 rfl Try.ntmps26 rfl (fun F hF => ?_)
  unfold m_laws_eqInt64S at hm
  refine T_seq ?_
  refine T_region ?_
  refine TL_pure rfl rfl rfl rfl (op_assign rfl) ?_
  refine TL_nil ?_
  refine T_seq ?_
  refine T_seq ?_
  refine T_region ?_
  refine TL_pure rfl rfl rfl rfl (op_move rfl) ?_
  refine TL_pure rfl rfl rfl rfl (op_lenT Try.underlying26 rfl (List.length_map _)) ?_
  refine TL_fact (fun _ _ _ hr => RelP.slLen (i := 6) rfl hr) (fun hlen7 => ?_)
  rw [List.length_map] at hlen7
  refine TL_pure rfl rfl rfl rfl (op_move rfl) ?_
  refine TL_pure rfl rfl rfl rfl (op_lenT Try.underlying26 rfl (List.length_map _)) ?_
  refine TL_fact (fun _ _ _ hr => RelP.slLen (i := 8) rfl hr) (fun hlen9 => ?_)
  rw [List.length_map] at hlen9
  refine TL_pure rfl rfl rfl rfl (op_neq rfl rfl) ?_
  refine TL_nil ?_
  refine T_cond rfl (fun hq => ?_) (fun hq => ?_)
  · replace hm := condT hq hm
    refine T_seq ?_
    refine T_region ?_
    refine TL_pure rfl rfl rfl rfl (op_assign rfl) ?_
    refine TL_nil ?_
    refine T_keepH [4] [] rfl rfl rfl rfl (by rw [hF]; rfl) ?_
    refine T_ret ?_
    obtain rfl := someI hm
    refine ⟨[_], [], ⟨rfl, trivial⟩, ?_, rfl, rfl, rfl, rfl⟩
    rfl
  · replace hm := condF hq hm
    refine T_skip ?_
    refine T_seq ?_
    refine T_seq ?_
    refine T_region ?_
    refine TL_pure rfl rfl rfl rfl (op_assign rfl) ?_
    refine TL_nil ?_
    refine T_block ?_
    refine T_keepH [0, 1, 5] [] rfl rfl rfl rfl (by rw [hF]; rfl) ?_
    refine T_loop ?_
    obtain ⟨u0, hl0, hm⟩ := bindS hm
    refine TR_iter2 (m_laws_eqInt64S_L0 p0 p1) (fun (s0 : Int) => ⟨[(0, .sl 1 (List.map a_i64 p0)), (1, .sl 1 (List.map a_i64 p1)), (5, .int .i64 s0)], []⟩) (fun u0 => match u0 with | .inl u0 => .exit 0 | .inr u0 => .ret) (fun u0 => match u0 with | .inl u0 => ⟨[], []⟩ | .inr u0 => ⟨[(4, .bool u0)], []⟩) (fun u0 => m_laws_eqInt64S_A0 u0 = some out) hl0 hm (fun u0 hm => ?_) (fun hx0 s0 c0 hm hc0 => ?_)
    · rcases u0 with u0 | u0
      · unfold m_laws_eqInt64S_A0 at hm
        refine T_seq ?_
        refine T_region ?_
        refine TL_pure rfl rfl rfl rfl (op_assign rfl) ?_
        refine TL_nil ?_
        refine T_keepH [4] [] rfl rfl rfl rfl (by rw [hF]; rfl) ?_
        refine T_ret ?_
        obtain rfl := someI hm
        refine ⟨[_], [], ⟨rfl, trivial⟩, ?_, rfl, rfl, rfl, rfl⟩
        rfl
      · unfold m_laws_eqInt64S_A0 at hm
        obtain rfl := someI hm
        refine ⟨[_], [], ⟨rfl, trivial⟩, ?_, rfl, rfl, rfl, rfl⟩
        rfl
    · unfold m_laws_eqInt64S_L0 at hm
      refine T_seq ?_
      refine T_seq ?_
      refine T_region ?_
      refine TL_pure rfl rfl rfl rfl (op_move rfl) ?_
      refine TL_pure rfl rfl rfl rfl (op_move rfl) ?_
      refine TL_pure rfl rfl rfl rfl (op_lenT Try.underlying26 rfl (List.length_map _)) ?_
      refine TL_pure rfl rfl rfl rfl (op_lss rfl rfl) ?_
      refine TL_nil ?_
      refine T_cond rfl (fun hq => ?_) (fun hq => ?_)
      · replace hm := condT hq hm
        refine T_skip ?_
        refine T_seq ?_
        refine T_block ?_
        refine T_seq ?_
        refine T_drawZ [] mix (by kernel_rfl) rfl ?_
        obtain ⟨x19, hx19, hm⟩ := bindS hm
        obtain ⟨x23, hx23, hm⟩ := bindS hm
        refine TZ_pure 0 (by kernel_rfl) rfl rfl rfl rfl rfl (op_move rfl) ?_
        refine TZ_pure 1 (by kernel_rfl) rfl rfl rfl rfl rfl (op_move rfl) ?_
        refine TZ_pure 2 (by kernel_rfl) rfl rfl rfl rfl rfl (op_indexT el26 rfl rfl hx19 rfl) ?_
        refine TZ_pure 3 (by kernel_rfl) rfl rfl rfl rfl rfl (op_load_one ag2 rfl rfl) ?_
        refine TZ_pure 4 (by kernel_rfl) rfl rfl rfl rfl rfl (op_move rfl) ?_
        refine TZ_pure 5 (by kernel_rfl) rfl rfl rfl rfl rfl (op_move rfl) ?_
        refine TZ_pure 6 (by kernel_rfl) rfl rfl rfl rfl rfl (op_indexT el26 rfl rfl hx23 rfl) ?_
        refine TZ_pure 7 (by kernel_rfl) rfl rfl rfl rfl rfl (op_load_one ag2 rfl rfl) ?_
        refine TZ_pure 8 (by kernel_rfl) rfl rfl rfl rfl rfl (op_neq rfl rfl) ?_
        refine TZ_done (by kernel_rfl) ?_
        refine T_cond rfl (fun hq => ?_) (fun hq => ?_)
        · replace hm := condT hq hm
          refine T_seq ?_
          refine T_region ?_
          refine TL_pure rfl rfl rfl rfl (op_assign rfl) ?_
          refine TL_nil ?_
          refine T_keepH [4] [] rfl rfl rfl rfl (by rw [hF]; rfl) ?_
          refine T_ret ?_
          obtain rfl := someI hm
          have hn := CtlOK_out hc0
          exact hx0 (.inr false) hn
        · replace hm := condF hq hm
          refine T_skip ?_
          refine T_region ?_
          refine TL_pure rfl rfl rfl rfl (op_move rfl) ?_
          refine TL_pure rfl rfl rfl rfl (op_addW rfl rfl) ?_
          refine TL_pure rfl rfl rfl rfl (op_assign rfl) ?_
          refine TL_nil ?_
          refine TR_keepH [0, 1, 5] [] rfl rfl rfl rfl (by rw [hF]; rfl) ?_
          obtain rfl := someI hm
          have hn := CtlOK_next hc0
          exact hn _ rfl
      · replace hm := condF hq hm
        refine T_keepH [] [] rfl rfl rfl rfl (by rw [hF]; rfl) ?_
        refine T_exit ?_
        obtain rfl := someI hm
        have hn := CtlOK_out hc0
        exact hx0 (.inl ()) hn
theorem c_laws_eqTerm (p0 : Term) (p1 : Term) (out : Bool) (hm : m_laws_eqTerm p0 p1 = some out) : ACall Try.prog 153 [.agg [.int .i64 p0.Const, .sl 1 (List.map a_i64 p0.Coeffs)], .agg [.int .i64 p1.Const, .sl 1 (List.map a_i64 p1.Coeffs)]] [] (.bool out) [] := by
  refine ACall.intro Try.func153 rfl Try.ntmps153 rfl (fun F hF => ?_)
  unfold m_laws_eqTerm at hm
  refine T_seq ?_
  refine T_region ?_
  refine TL_box 11 rfl rfl rfl rfl rfl rfl rfl ?_
  refine TL_box 12 rfl rfl rfl rfl rfl rfl rfl ?_
  refine TL_pure rfl rfl rfl rfl (op_assign rfl) ?_
  refine TL_nil ?_
  refine T_seq ?_
  refine T_seq ?_
  refine T_region ?_
  refine TL_pure rfl rfl rfl rfl (op_fieldAddr fa184_0 rfl rfl) ?_
  refine TL_pure rfl rfl rfl rfl (op_load_one ag2 rfl rfl) ?_
  refine TL_pure rfl rfl rfl rfl (op_fieldAddr fa184_0 rfl rfl) ?_
  refine TL_pure rfl rfl rfl rfl (op_load_one ag2 rfl rfl) ?_
  refine TL_pure rfl rfl rfl rfl (op_neq rfl rfl) ?_
  refine TL_nil ?_
  refine T_cond rfl (fun hq => ?_) (fun hq => ?_)
  · replace hm := condT hq hm
    refine T_seq ?_
    refine T_region ?_
    refine TL_pure rfl rfl rfl rfl (op_assign rfl) ?_
    refine TL_nil ?_
    refine T_keepH [4] [] rfl rfl rfl rfl (by rw [hF]; rfl) ?_
    refine T_ret ?_
    obtain rfl := someI hm
    refine ⟨[_], [], ⟨rfl, trivial⟩, ?_, rfl, rfl, rfl, rfl⟩
    rfl
  · replace hm := condF hq hm
    refine T_skip ?_
    refine T_seq ?_
    refine T_seq ?_
    refine T_region ?_
    refine TL_pure rfl rfl rfl rfl (op_fieldAddr fa184_1 rfl rfl) ?_
    refine TL_pure rfl rfl rfl rfl (op_load_one ag26 rfl rfl) ?_
    refine TL_pure rfl rfl rfl rfl (op_fieldAddr fa184_1 rfl rfl) ?_
    refine TL_pure rfl rfl rfl rfl (op_load_one ag26 rfl rfl) ?_
    obtain ⟨r14, hr14, hm⟩ := bindS hm
    refine TL_callF (ACall.F (F := F) (c_laws_eqInt64S p0.Coeffs p1.Coeffs r14 hr14)) Try.call26 rfl rfl rfl rfl rfl ?_
    refine TL_pure rfl rfl rfl rfl (op_not rfl) ?_
    refine TL_nil ?_
    refine T_cond rfl (fun hq => ?_) (fun hq => ?_)
    · replace hm := condT hq hm
      refine T_seq ?_
      refine T_region ?_
      refine TL_pure rfl rfl rfl rfl (op_assign rfl) ?_
      refine TL_nil ?_
      refine T_keepH [4] [] rfl rfl rfl rfl (by rw [hF]; rfl) ?_
      refine T_ret ?_
      obtain rfl := someI hm
      refine ⟨[_], [], ⟨rfl, trivial⟩, ?_, rfl, rfl, rfl, rfl⟩
      rfl
    · replace hm := condF hq hm
      refine T_skip ?_
      refine T_seq ?_
      refine T_region ?_
      refine TL_pure rfl rfl rfl rfl (op_assign rfl) ?_
      refine TL_nil ?_
      refine T_keepH [4] [] rfl rfl rfl rfl (by rw [hF]; rfl) ?_
      refine T_ret ?_
      obtain rfl := someI hm
      refine ⟨[_], [], ⟨rfl, trivial⟩, ?_, rfl, rfl, rfl, rfl⟩
      rfl
theorem c_laws_eqTermS (p0 : List Term) (p1 : List Term) (out : Bool) (hm : m_laws_eqTermS p0 p1 = some out) : ACall Try.prog 94 [.sl 2 (List.map a_Term p0), .sl 2 (List.map a_Term p1)] [] (.bool out) [] := by
  refine ACall.intro Try.func94 rfl Try.ntmps94 rfl (fun F hF => ?_)
  unfold m_laws_eqTermS at hm
  refine T_seq ?_
  refine T_region ?_
  refine TL_pure rfl rfl rfl rfl (op_assign rfl) ?_
  refine TL_nil ?_
  refine T_seq ?_
  refine T_seq ?_
  refine T_region ?_
  refine TL_pure rfl rfl rfl rfl (op_move rfl) ?_
  refine TL_pure rfl rfl rfl rfl (op_lenT Try.underlying66 rfl (List.length_map _)) ?_
  refine TL_fact (fun _ _ _ hr => RelP.slLen (i := 6) rfl hr) (fun hlen7 => ?_)
  rw [List.length_map] at hlen7
  refine TL_pure rfl rfl rfl rfl (op_move rfl) ?_
  refine TL_pure rfl rfl rfl rfl (op_lenT Try.underlying66 rfl (List.length_map _)) ?_
  refine TL_fact (fun _ _ _ hr => RelP.slLen (i := 8) rfl hr) (fun hlen9 => ?_)
  rw [List.length_map] at hlen9
  refine TL_pure rfl rfl rfl rfl (op_neq rfl rfl) ?_
  refine TL_nil ?_
  refine T_cond rfl (fun hq => ?_) (fun hq => ?_)
  · replace hm := condT hq hm
    refine T_seq ?_
    refine T_region ?_
    refine TL_pure rfl rfl rfl rfl (op_assign rfl) ?_
    refine TL_nil ?_
    refine T_keepH [4] [] rfl rfl rfl rfl (by rw [hF]; rfl) ?_
    refine T_ret ?_
    obtain rfl := someI hm
    refine ⟨[_], [], ⟨rfl, trivial⟩, ?_, rfl, rfl, rfl, rfl⟩
    rfl
  · replace hm := condF hq hm
    refine T_skip ?_
    refine T_seq ?_
    refine T_seq ?_
    refine T_region ?_
    refine TL_pure rfl rfl rfl rfl (op_assign rfl) ?_
    refine TL_nil ?_
    refine T_block ?_
    refine T_keepH [0, 1, 5] [] rfl rfl rfl rfl (by rw [hF]; rfl) ?_
    refine T_loop ?_
    obtain ⟨u0, hl0, hm⟩ := bindS hm
    refine TR_iter2 (m_laws_eqTermS_L0 p0 p1) (fun (s0 : Int) => ⟨[(0, .sl 2 (List.map a_Term p0)), (1, .sl 2 (List.map a_Term p1)), (5, .int .i64 s0)], []⟩) (fun u0 => match u0 with | .inl u0 => .exit 0 | .inr u0 => .ret) (fun u0 => match u0 with | .inl u0 => ⟨[], []⟩ | .inr u0 => ⟨[(4, .bool u0)], []⟩) (fun u0 => m_laws_eqTermS_A0 u0 = some out) hl0 hm (fun u0 hm => ?_) (fun hx0 s0 c0 hm hc0 => ?_)
    · rcases u0 with u0 | u0
      · unfold m_laws_eqTermS_A0 at hm
        refine T_seq ?_
        refine T_region ?_
        refine TL_pure rfl rfl rfl rfl (op_assign rfl) ?_
        refine TL_nil ?_
        refine T_keepH [4] [] rfl rfl rfl rfl (by rw [hF]; rfl) ?_
        refine T_ret ?_
        obtain rfl := someI hm
        refine ⟨[_], [], ⟨rfl, trivial⟩, ?_, rfl, rfl, rfl, rfl⟩
        rfl
      · unfold m_laws_eqTermS_A0 at hm
        obtain rfl := someI hm
        refine ⟨[_], [], ⟨rfl, trivial⟩, ?_, rfl, rfl, rfl, rfl⟩
        rfl
    · unfold m_laws_eqTermS_L0 at hm
      refine T_seq ?_
      refine T_seq ?_
      refine T_region ?_
      refine TL_pure rfl rfl rfl rfl (op_move rfl) ?_
      refine TL_pure rfl rfl rfl rfl (op_move rfl) ?_
      refine TL_pure rfl rfl rfl rfl (op_lenT Try.underlying66 rfl (List.length_map _)) ?_
      refine TL_pure rfl rfl rfl rfl (op_lss rfl rfl) ?_
      refine TL_nil ?_
      refine T_cond rfl (fun hq => ?_) (fun hq => ?_)
      · replace hm := condT hq hm
        refine T_skip ?_
        refine T_seq ?_
        refine T_block ?_
        refine T_seq ?_
        refine T_drawZ [] mix (by kernel_rfl) rfl ?_
        obtain ⟨x19, hx19, hm⟩ := bindS hm
        obtain ⟨x23, hx23, hm⟩ := bindS hm
        obtain ⟨r25, hr25, hm⟩ := bindS hm
        refine TZ_pure 0 (by kernel_rfl) rfl rfl rfl rfl rfl (op_move rfl) ?_
        refine TZ_pure 1 (by kernel_rfl) rfl rfl rfl rfl rfl (op_move rfl) ?_
        refine TZ_pure 2 (by kernel_rfl) rfl rfl rfl rfl rfl (op_indexT el66 rfl rfl hx19 rfl) ?_
        refine TZ_pure 3 (by kernel_rfl) rfl rfl rfl rfl rfl (op_load_agg ag184 sz184 rfl rfl rfl) ?_
        refine TZ_pure 4 (by kernel_rfl) rfl rfl rfl rfl rfl (op_move rfl) ?_
        refine TZ_pure 5 (by kernel_rfl) rfl rfl rfl rfl rfl (op_move rfl) ?_
        refine TZ_pure 6 (by kernel_rfl) rfl rfl rfl rfl rfl (op_indexT el66 rfl rfl hx23 rfl) ?_
        refine TZ_pure 7 (by kernel_rfl) rfl rfl rfl rfl rfl (op_load_agg ag184 sz184 rfl rfl rfl) ?_
        refine TZ_one 8 (by kernel_rfl) rfl ?_
        refine TL_callF (ACall.F (F := F) (c_laws_eqTerm x19 x23 r25 hr25)) Try.call153 rfl rfl rfl rfl rfl ?_
        refine TL_nil ?_
        refine TZ_pure 9 (by kernel_rfl) rfl rfl rfl rfl rfl (op_not rfl) ?_
        refine TZ_done (by kernel_rfl) ?_
        refine T_cond rfl (fun hq => ?_) (fun hq => ?_)
        · replace hm := condT hq hm
          refine T_seq ?_
          refine T_region ?_
          refine TL_pure rfl rfl rfl rfl (op_assign rfl) ?_
          refine TL_nil ?_
          refine T_keepH [4] [] rfl rfl rfl rfl (by rw [hF]; rfl) ?_
          refine T_ret ?_
          obtain rfl := someI hm
          have hn := CtlOK_out hc0
          exact hx0 (.inr false) hn
        · replace hm := condF hq hm
          refine T_skip ?_
          refine T_region ?_
          refine TL_pure rfl rfl rfl rfl (op_move rfl) ?_
          refine TL_pure rfl rfl rfl rfl (op_addW rfl rfl) ?_
          refine TL_pure rfl rfl rfl rfl (op_assign rfl) ?_
          refine TL_nil ?_
          refine TR_keepH [0, 1, 5] [] rfl rfl rfl rfl (by rw [hF]; rfl) ?_
          obtain rfl := someI hm
          have hn := CtlOK_next hc0
          exact hn _ rfl
      · replace hm := condF hq hm
        refine T_keepH [] [] rfl rfl rfl rfl (by rw [hF]; rfl) ?_
        refine T_exit ?_
        obtain rfl := someI hm
        have hn := CtlOK_out hc0
        exact hx0 (.inl ()) hn
theorem c_laws_eqInstr (p0 : Instr) (p1 : Instr) (out : Bool) (hm : m_laws_eqInstr p0 p1 = some out) : ACall Try.prog 80 [.agg [.int .i64 p0.Op, .int .i64 p0.Arg], .agg [.int .i64 p1.Op, .int .i64 p1.Arg]] [] (.bool out) [] := by
  refine ACall.intro Try.func80 rfl Try.ntmps80 rfl (fun F hF => ?_)
  unfold m_laws_eqInstr at hm
  refine T_seq ?_
  refine T_region ?_
  refine TL_box 11 rfl rfl rfl rfl rfl rfl rfl ?_
  refine TL_box 12 rfl rfl rfl rfl rfl rfl rfl ?_
  refine TL_pure rfl rfl rfl rfl (op_assign rfl) ?_
  refine TL_nil ?_
  refine T_seq ?_
  refine T_seq ?_
  refine T_region ?_
  refine TL_pure rfl rfl rfl rfl (op_fieldAddr fa40_0 rfl rfl) ?_
  refine TL_pure rfl rfl rfl rfl (op_load_one ag2 rfl rfl) ?_
  refine TL_pure rfl rfl rfl rfl (op_fieldAddr fa40_0 rfl rfl) ?_
  refine TL_pure rfl rfl rfl rfl (op_load_one ag2 rfl rfl) ?_
  refine TL_pure rfl rfl rfl rfl (op_neq rfl rfl) ?_
  refine TL_nil ?_
  refine T_cond rfl (fun hq => ?_) (fun hq => ?_)
  · replace hm := condT hq hm
    refine T_seq ?_
    refine T_region ?_
    refine TL_pure rfl rfl rfl rfl (op_assign rfl) ?_
    refine TL_nil ?_
    refine T_keepH [4] [] rfl rfl rfl rfl (by rw [hF]; rfl) ?_
    refine T_ret ?_
    obtain rfl := someI hm
    refine ⟨[_], [], ⟨rfl, trivial⟩, ?_, rfl, rfl, rfl, rfl⟩
    rfl
  · replace hm := condF hq hm
    refine T_skip ?_
    refine T_seq ?_
    refine T_seq ?_
    refine T_region ?_
    refine TL_pure rfl rfl rfl rfl (op_fieldAddr fa40_1 rfl rfl) ?_
    refine TL_pure rfl rfl rfl rfl (op_load_one ag2 rfl rfl) ?_
    refine TL_pure rfl rfl rfl rfl (op_fieldAddr fa40_1 rfl rfl) ?_
    refine TL_pure rfl rfl rfl rfl (op_load_one ag2 rfl rfl) ?_
    refine TL_pure rfl rfl rfl rfl (op_neq rfl rfl) ?_
    refine TL_nil ?_
    refine T_cond rfl (fun hq => ?_) (fun hq => ?_)
    · replace hm := condT hq hm
      refine T_seq ?_
      refine T_region ?_
      refine TL_pure rfl rfl rfl rfl (op_assign rfl) ?_
      refine TL_nil ?_
      refine T_keepH [4] [] rfl rfl rfl rfl (by rw [hF]; rfl) ?_
      refine T_ret ?_
      obtain rfl := someI hm
      refine ⟨[_], [], ⟨rfl, trivial⟩, ?_, rfl, rfl, rfl, rfl⟩
      rfl
    · replace hm := condF hq hm
      refine T_skip ?_
      refine T_seq ?_
      refine T_region ?_
      refine TL_pure rfl rfl rfl rfl (op_assign rfl) ?_
      refine TL_nil ?_
      refine T_keepH [4] [] rfl rfl rfl rfl (by rw [hF]; rfl) ?_
      refine T_ret ?_
      obtain rfl := someI hm
      refine ⟨[_], [], ⟨rfl, trivial⟩, ?_, rfl, rfl, rfl, rfl⟩
      rfl
theorem c_laws_eqInstrS (p0 : List Instr) (p1 : List Instr) (out : Bool) (hm : m_laws_eqInstrS p0 p1 = some out) : ACall Try.prog 27 [.sl 2 (List.map a_Instr p0), .sl 2 (List.map a_Instr p1)] [] (.bool out) [] := by
  refine ACall.intro Try.func27 rfl Try.ntmps27 rfl (fun F hF => ?_)
  unfold m_laws_eqInstrS at hm
  refine T_seq ?_
  refine T_region ?_
  refine TL_pure rfl rfl rfl rfl (op_assign rfl) ?_
  refine TL_nil ?_
  refine T_seq ?_
  refine T_seq ?_
  refine T_region ?_
  refine TL_pure rfl rfl rfl rfl (op_move rfl) ?_
  refine TL_pure rfl rfl rfl rfl (op_lenT Try.underlying24 rfl (List.length_map _)) ?_
  refine TL_fact (fun _ _ _ hr => RelP.slLen (i := 6) rfl hr) (fun hlen7 => ?_)
  rw [List.length_map] at hlen7
  refine TL_pure rfl rfl rfl rfl (op_move rfl) ?_
  refine TL_pure rfl rfl rfl rfl (op_lenT Try.underlying24 rfl (List.length_map _)) ?_
  refine TL_fact (fun _ _ _ hr => RelP.slLen (i := 8) rfl hr) (fun hlen9 => ?_)
  rw [List.length_map] at hlen9
  refine TL_pure rfl rfl rfl rfl (op_neq rfl rfl) ?_
  refine TL_nil ?_
  refine T_cond rfl (fun hq => ?_) (fun hq => ?_)
  · replace hm := condT hq hm
    refine T_seq ?_
    refine T_region ?_
    refine TL_pure rfl rfl rfl rfl (op_assign rfl) ?_
    refine TL_nil ?_
    refine T_keepH [4] [] rfl rfl rfl rfl (by rw [hF]; rfl) ?_
    refine T_ret ?_
    obtain rfl := someI hm
    refine ⟨[_], [], ⟨rfl, trivial⟩, ?_, rfl, rfl, rfl, rfl⟩
    rfl
  · replace hm := condF hq hm
    refine T_skip ?_
    refine T_seq ?_
    refine T_seq ?_
    refine T_region ?_
    refine TL_pure rfl rfl rfl rfl (op_assign rfl) ?_
    refine TL_nil ?_
    refine T_block ?_
    refine T_keepH [0, 1, 5] [] rfl rfl rfl rfl (by rw [hF]; rfl) ?_
    refine T_loop ?_
    obtain ⟨u0, hl0, hm⟩ := bindS hm
    refine TR_iter2 (m_laws_eqInstrS_L0 p0 p1) (fun (s0 : Int) => ⟨[(0, .sl 2 (List.map a_Instr p0)), (1, .sl 2 (List.map a_Instr p1)), (5, .int .i64 s0)], []⟩) (fun u0 => match u0 with | .inl u0 => .exit 0 | .inr u0 => .ret) (fun u0 => match u0 with | .inl u0 => ⟨[], []⟩ | .inr u0 => ⟨[(4, .bool u0)], []⟩) (fun u0 => m_laws_eqInstrS_A0 u0 = some out) hl0 hm (fun u0 hm => ?_) (fun hx0 s0 c0 hm hc0 => ?_)
    · rcases u0 with u0 | u0
      · unfold m_laws_eqInstrS_A0 at hm
        refine T_seq ?_
        refine T_region ?_
        refine TL_pure rfl rfl rfl rfl (op_assign rfl) ?_
        refine TL_nil ?_
        refine T_keepH [4] [] rfl rfl rfl rfl (by rw [hF]; rfl) ?_
        refine T_ret ?_
        obtain rfl := someI hm
        refine ⟨[_], [], ⟨rfl, trivial⟩, ?_, rfl, rfl, rfl, rfl⟩
        rfl
      · unfold m_laws_eqInstrS_A0 at hm
        obtain rfl := someI hm
        refine ⟨[_], [], ⟨rfl, trivial⟩, ?_, rfl, rfl, rfl, rfl⟩
        rfl
    · unfold m_laws_eqInstrS_L0 at hm
      refine T_seq ?_
      refine T_seq ?_
      refine T_region ?_
      refine TL_pure rfl rfl rfl rfl (op_move rfl) ?_
      refine TL_pure rfl rfl rfl rfl (op_move rfl) ?_
      refine TL_pure rfl rfl rfl rfl (op_lenT Try.underlying24 rfl (List.length_map _)) ?_
      refine TL_pure rfl rfl rfl rfl (op_lss rfl rfl) ?_
      refine TL_nil ?_
      refine T_cond rfl (fun hq => ?_) (fun hq => ?_)
      · replace hm := condT hq hm
        refine T_skip ?_
        refine T_seq ?_
        refine T_block ?_
        refine T_seq ?_
        refine T_drawZ [] mix (by kernel_rfl) rfl ?_
        obtain ⟨x19, hx19, hm⟩ := bindS hm
        obtain ⟨x23, hx23, hm⟩ := bindS hm
        obtain ⟨r25, hr25, hm⟩ := bindS hm
        refine TZ_pure 0 (by kernel_rfl) rfl rfl rfl rfl rfl (op_move rfl) ?_
        refine TZ_pure 1 (by kernel_rfl) rfl rfl rfl rfl rfl (op_move rfl) ?_
        refine TZ_pure 2 (by kernel_rfl) rfl rfl rfl rfl rfl (op_indexT el24 rfl rfl hx19 rfl) ?_
        refine TZ_pure 3 (by kernel_rfl) rfl rfl rfl rfl rfl (op_load_agg ag40 sz40 rfl rfl rfl) ?_
        refine TZ_pure 4 (by kernel_rfl) rfl rfl rfl rfl rfl (op_move rfl) ?_
        refine TZ_pure 5 (by kernel_rfl) rfl rfl rfl rfl rfl (op_move rfl) ?_
        refine TZ_pure 6 (by kernel_rfl) rfl rfl rfl rfl rfl (op_indexT el24 rfl rfl hx23 rfl) ?_
        refine TZ_pure 7 (by kernel_rfl) rfl rfl rfl rfl rfl (op_load_agg ag40 sz40 rfl rfl rfl) ?_
        refine TZ_one 8 (by kernel_rfl) rfl ?_
        refine TL_callF (ACall.F (F := F) (c_laws_eqInstr x19 x23 r25 hr25)) Try.call80 rfl rfl rfl rfl rfl ?_
        refine TL_nil ?_
        refine TZ_pure 9 (by kernel_rfl) rfl rfl rfl rfl rfl (op_not rfl) ?_
        refine TZ_done (by kernel_rfl) ?_
        refine T_cond rfl (fun hq => ?_) (fun hq => ?_)
        · replace hm := condT hq hm
          refine T_seq ?_
          refine T_region ?_
          refine TL_pure rfl rfl rfl rfl (op_assign rfl) ?_
          refine TL_nil ?_
          refine T_keepH [4] [] rfl rfl rfl rfl (by rw [hF]; rfl) ?_
          refine T_ret ?_
          obtain rfl := someI hm
          have hn := CtlOK_out hc0
          exact hx0 (.inr false) hn
        · replace hm := condF hq hm
          refine T_skip ?_
          refine T_region ?_
          refine TL_pure rfl rfl rfl rfl (op_move rfl) ?_
          refine TL_pure rfl rfl rfl rfl (op_addW rfl rfl) ?_
          refine TL_pure rfl rfl rfl rfl (op_assign rfl) ?_
          refine TL_nil ?_
          refine TR_keepH [0, 1, 5] [] rfl rfl rfl rfl (by rw [hF]; rfl) ?_
          obtain rfl := someI hm
          have hn := CtlOK_next hc0
          exact hn _ rfl
      · replace hm := condF hq hm
        refine T_keepH [] [] rfl rfl rfl rfl (by rw [hF]; rfl) ?_
        refine T_exit ?_
        obtain rfl := someI hm
        have hn := CtlOK_out hc0
        exact hx0 (.inl ()) hn
theorem c_laws_eqPoint (p0 : Point) (p1 : Point) (out : Bool) (hm : m_laws_eqPoint p0 p1 = some out) : ACall Try.prog 54 [.agg [.int .i64 p0.At, .sl 2 (List.map a_Term p0.Facts)], .agg [.int .i64 p1.At, .sl 2 (List.map a_Term p1.Facts)]] [] (.bool out) [] := by
  refine ACall.intro Try.func54 rfl Try.ntmps54 rfl (fun F hF => ?_)
  unfold m_laws_eqPoint at hm
  refine T_seq ?_
  refine T_region ?_
  refine TL_box 11 rfl rfl rfl rfl rfl rfl rfl ?_
  refine TL_box 12 rfl rfl rfl rfl rfl rfl rfl ?_
  refine TL_pure rfl rfl rfl rfl (op_assign rfl) ?_
  refine TL_nil ?_
  refine T_seq ?_
  refine T_seq ?_
  refine T_region ?_
  refine TL_pure rfl rfl rfl rfl (op_fieldAddr fa81_0 rfl rfl) ?_
  refine TL_pure rfl rfl rfl rfl (op_load_one ag2 rfl rfl) ?_
  refine TL_pure rfl rfl rfl rfl (op_fieldAddr fa81_0 rfl rfl) ?_
  refine TL_pure rfl rfl rfl rfl (op_load_one ag2 rfl rfl) ?_
  refine TL_pure rfl rfl rfl rfl (op_neq rfl rfl) ?_
  refine TL_nil ?_
  refine T_cond rfl (fun hq => ?_) (fun hq => ?_)
  · replace hm := condT hq hm
    refine T_seq ?_
    refine T_region ?_
    refine TL_pure rfl rfl rfl rfl (op_assign rfl) ?_
    refine TL_nil ?_
    refine T_keepH [4] [] rfl rfl rfl rfl (by rw [hF]; rfl) ?_
    refine T_ret ?_
    obtain rfl := someI hm
    refine ⟨[_], [], ⟨rfl, trivial⟩, ?_, rfl, rfl, rfl, rfl⟩
    rfl
  · replace hm := condF hq hm
    refine T_skip ?_
    refine T_seq ?_
    refine T_seq ?_
    refine T_region ?_
    refine TL_pure rfl rfl rfl rfl (op_fieldAddr fa81_1 rfl rfl) ?_
    refine TL_pure rfl rfl rfl rfl (op_load_one ag66 rfl rfl) ?_
    refine TL_pure rfl rfl rfl rfl (op_fieldAddr fa81_1 rfl rfl) ?_
    refine TL_pure rfl rfl rfl rfl (op_load_one ag66 rfl rfl) ?_
    obtain ⟨r14, hr14, hm⟩ := bindS hm
    refine TL_callF (ACall.F (F := F) (c_laws_eqTermS p0.Facts p1.Facts r14 hr14)) Try.call94 rfl rfl rfl rfl rfl ?_
    refine TL_pure rfl rfl rfl rfl (op_not rfl) ?_
    refine TL_nil ?_
    refine T_cond rfl (fun hq => ?_) (fun hq => ?_)
    · replace hm := condT hq hm
      refine T_seq ?_
      refine T_region ?_
      refine TL_pure rfl rfl rfl rfl (op_assign rfl) ?_
      refine TL_nil ?_
      refine T_keepH [4] [] rfl rfl rfl rfl (by rw [hF]; rfl) ?_
      refine T_ret ?_
      obtain rfl := someI hm
      refine ⟨[_], [], ⟨rfl, trivial⟩, ?_, rfl, rfl, rfl, rfl⟩
      rfl
    · replace hm := condF hq hm
      refine T_skip ?_
      refine T_seq ?_
      refine T_region ?_
      refine TL_pure rfl rfl rfl rfl (op_assign rfl) ?_
      refine TL_nil ?_
      refine T_keepH [4] [] rfl rfl rfl rfl (by rw [hF]; rfl) ?_
      refine T_ret ?_
      obtain rfl := someI hm
      refine ⟨[_], [], ⟨rfl, trivial⟩, ?_, rfl, rfl, rfl, rfl⟩
      rfl
theorem c_laws_eqPointS (p0 : List Point) (p1 : List Point) (out : Bool) (hm : m_laws_eqPointS p0 p1 = some out) : ACall Try.prog 95 [.sl 2 (List.map a_Point p0), .sl 2 (List.map a_Point p1)] [] (.bool out) [] := by
  refine ACall.intro Try.func95 rfl Try.ntmps95 rfl (fun F hF => ?_)
  unfold m_laws_eqPointS at hm
  refine T_seq ?_
  refine T_region ?_
  refine TL_pure rfl rfl rfl rfl (op_assign rfl) ?_
  refine TL_nil ?_
  refine T_seq ?_
  refine T_seq ?_
  refine T_region ?_
  refine TL_pure rfl rfl rfl rfl (op_move rfl) ?_
  refine TL_pure rfl rfl rfl rfl (op_lenT Try.underlying67 rfl (List.length_map _)) ?_
  refine TL_fact (fun _ _ _ hr => RelP.slLen (i := 6) rfl hr) (fun hlen7 => ?_)
  rw [List.length_map] at hlen7
  refine TL_pure rfl rfl rfl rfl (op_move rfl) ?_
  refine TL_pure rfl rfl rfl rfl (op_lenT Try.underlying67 rfl (List.length_map _)) ?_
  refine TL_fact (fun _ _ _ hr => RelP.slLen (i := 8) rfl hr) (fun hlen9 => ?_)
  rw [List.length_map] at hlen9
  refine TL_pure rfl rfl rfl rfl (op_neq rfl rfl) ?_
  refine TL_nil ?_
  refine T_cond rfl (fun hq => ?_) (fun hq => ?_)
  · replace hm := condT hq hm
    refine T_seq ?_
    refine T_region ?_
    refine TL_pure rfl rfl rfl rfl (op_assign rfl) ?_
    refine TL_nil ?_
    refine T_keepH [4] [] rfl rfl rfl rfl (by rw [hF]; rfl) ?_
    refine T_ret ?_
    obtain rfl := someI hm
    refine ⟨[_], [], ⟨rfl, trivial⟩, ?_, rfl, rfl, rfl, rfl⟩
    rfl
  · replace hm := condF hq hm
    refine T_skip ?_
    refine T_seq ?_
    refine T_seq ?_
    refine T_region ?_
    refine TL_pure rfl rfl rfl rfl (op_assign rfl) ?_
    refine TL_nil ?_
    refine T_block ?_
    refine T_keepH [0, 1, 5] [] rfl rfl rfl rfl (by rw [hF]; rfl) ?_
    refine T_loop ?_
    obtain ⟨u0, hl0, hm⟩ := bindS hm
    refine TR_iter2 (m_laws_eqPointS_L0 p0 p1) (fun (s0 : Int) => ⟨[(0, .sl 2 (List.map a_Point p0)), (1, .sl 2 (List.map a_Point p1)), (5, .int .i64 s0)], []⟩) (fun u0 => match u0 with | .inl u0 => .exit 0 | .inr u0 => .ret) (fun u0 => match u0 with | .inl u0 => ⟨[], []⟩ | .inr u0 => ⟨[(4, .bool u0)], []⟩) (fun u0 => m_laws_eqPointS_A0 u0 = some out) hl0 hm (fun u0 hm => ?_) (fun hx0 s0 c0 hm hc0 => ?_)
    · rcases u0 with u0 | u0
      · unfold m_laws_eqPointS_A0 at hm
        refine T_seq ?_
        refine T_region ?_
        refine TL_pure rfl rfl rfl rfl (op_assign rfl) ?_
        refine TL_nil ?_
        refine T_keepH [4] [] rfl rfl rfl rfl (by rw [hF]; rfl) ?_
        refine T_ret ?_
        obtain rfl := someI hm
        refine ⟨[_], [], ⟨rfl, trivial⟩, ?_, rfl, rfl, rfl, rfl⟩
        rfl
      · unfold m_laws_eqPointS_A0 at hm
        obtain rfl := someI hm
        refine ⟨[_], [], ⟨rfl, trivial⟩, ?_, rfl, rfl, rfl, rfl⟩
        rfl
    · unfold m_laws_eqPointS_L0 at hm
      refine T_seq ?_
      refine T_seq ?_
      refine T_region ?_
      refine TL_pure rfl rfl rfl rfl (op_move rfl) ?_
      refine TL_pure rfl rfl rfl rfl (op_move rfl) ?_
      refine TL_pure rfl rfl rfl rfl (op_lenT Try.underlying67 rfl (List.length_map _)) ?_
      refine TL_pure rfl rfl rfl rfl (op_lss rfl rfl) ?_
      refine TL_nil ?_
      refine T_cond rfl (fun hq => ?_) (fun hq => ?_)
      · replace hm := condT hq hm
        refine T_skip ?_
        refine T_seq ?_
        refine T_block ?_
        refine T_seq ?_
        refine T_drawZ [] mix (by kernel_rfl) rfl ?_
        obtain ⟨x19, hx19, hm⟩ := bindS hm
        obtain ⟨x23, hx23, hm⟩ := bindS hm
        obtain ⟨r25, hr25, hm⟩ := bindS hm
        refine TZ_pure 0 (by kernel_rfl) rfl rfl rfl rfl rfl (op_move rfl) ?_
        refine TZ_pure 1 (by kernel_rfl) rfl rfl rfl rfl rfl (op_move rfl) ?_
        refine TZ_pure 2 (by kernel_rfl) rfl rfl rfl rfl rfl (op_indexT el67 rfl rfl hx19 rfl) ?_
        refine TZ_pure 3 (by kernel_rfl) rfl rfl rfl rfl rfl (op_load_agg ag81 sz81 rfl rfl rfl) ?_
        refine TZ_pure 4 (by kernel_rfl) rfl rfl rfl rfl rfl (op_move rfl) ?_
        refine TZ_pure 5 (by kernel_rfl) rfl rfl rfl rfl rfl (op_move rfl) ?_
        refine TZ_pure 6 (by kernel_rfl) rfl rfl rfl rfl rfl (op_indexT el67 rfl rfl hx23 rfl) ?_
        refine TZ_pure 7 (by kernel_rfl) rfl rfl rfl rfl rfl (op_load_agg ag81 sz81 rfl rfl rfl) ?_
        refine TZ_one 8 (by kernel_rfl) rfl ?_
        refine TL_callF (ACall.F (F := F) (c_laws_eqPoint x19 x23 r25 hr25)) Try.call54 rfl rfl rfl rfl rfl ?_
        refine TL_nil ?_
        refine TZ_pure 9 (by kernel_rfl) rfl rfl rfl rfl rfl (op_not rfl) ?_
        refine TZ_done (by kernel_rfl) ?_
        refine T_cond rfl (fun hq => ?_) (fun hq => ?_)
        · replace hm := condT hq hm
          refine T_seq ?_
          refine T_region ?_
          refine TL_pure rfl rfl rfl rfl (op_assign rfl) ?_
          refine TL_nil ?_
          refine T_keepH [4] [] rfl rfl rfl rfl (by rw [hF]; rfl) ?_
          refine T_ret ?_
          obtain rfl := someI hm
          have hn := CtlOK_out hc0
          exact hx0 (.inr false) hn
        · replace hm := condF hq hm
          refine T_skip ?_
          refine T_region ?_
          refine TL_pure rfl rfl rfl rfl (op_move rfl) ?_
          refine TL_pure rfl rfl rfl rfl (op_addW rfl rfl) ?_
          refine TL_pure rfl rfl rfl rfl (op_assign rfl) ?_
          refine TL_nil ?_
          refine TR_keepH [0, 1, 5] [] rfl rfl rfl rfl (by rw [hF]; rfl) ?_
          obtain rfl := someI hm
          have hn := CtlOK_next hc0
          exact hn _ rfl
      · replace hm := condF hq hm
        refine T_keepH [] [] rfl rfl rfl rfl (by rw [hF]; rfl) ?_
        refine T_exit ?_
        obtain rfl := someI hm
        have hn := CtlOK_out hc0
        exact hx0 (.inl ()) hn
theorem c_laws_eqAnnotated (p0 : Annotated) (p1 : Annotated) (out : Bool) (hm : m_laws_eqAnnotated p0 p1 = some out) : ACall Try.prog 45 [.agg [.sl 2 (List.map a_Term p0.Pre), .sl 2 (List.map a_Term p0.Post), .sl 2 (List.map a_Instr p0.Code), .sl 2 (List.map a_Point p0.Points)], .agg [.sl 2 (List.map a_Term p1.Pre), .sl 2 (List.map a_Term p1.Post), .sl 2 (List.map a_Instr p1.Code), .sl 2 (List.map a_Point p1.Points)]] [] (.bool out) [] := by
  refine ACall.intro Try.func45 rfl Try.ntmps45 rfl (fun F hF => ?_)
  unfold m_laws_eqAnnotated at hm
  refine T_seq ?_
  refine T_region ?_
  refine TL_box 11 rfl rfl rfl rfl rfl rfl rfl ?_
  refine TL_box 12 rfl rfl rfl rfl rfl rfl rfl ?_
  refine TL_pure rfl rfl rfl rfl (op_assign rfl) ?_
  refine TL_nil ?_
  refine T_seq ?_
  refine T_seq ?_
  refine T_region ?_
  refine TL_pure rfl rfl rfl rfl (op_fieldAddr fa69_0 rfl rfl) ?_
  refine TL_pure rfl rfl rfl rfl (op_load_one ag66 rfl rfl) ?_
  refine TL_pure rfl rfl rfl rfl (op_fieldAddr fa69_0 rfl rfl) ?_
  refine TL_pure rfl rfl rfl rfl (op_load_one ag66 rfl rfl) ?_
  obtain ⟨r9, hr9, hm⟩ := bindS hm
  refine TL_callF (ACall.F (F := F) (c_laws_eqTermS p0.Pre p1.Pre r9 hr9)) Try.call94 rfl rfl rfl rfl rfl ?_
  refine TL_pure rfl rfl rfl rfl (op_not rfl) ?_
  refine TL_nil ?_
  refine T_cond rfl (fun hq => ?_) (fun hq => ?_)
  · replace hm := condT hq hm
    refine T_seq ?_
    refine T_region ?_
    refine TL_pure rfl rfl rfl rfl (op_assign rfl) ?_
    refine TL_nil ?_
    refine T_keepH [4] [] rfl rfl rfl rfl (by rw [hF]; rfl) ?_
    refine T_ret ?_
    obtain rfl := someI hm
    refine ⟨[_], [], ⟨rfl, trivial⟩, ?_, rfl, rfl, rfl, rfl⟩
    rfl
  · replace hm := condF hq hm
    refine T_skip ?_
    refine T_seq ?_
    refine T_seq ?_
    refine T_region ?_
    refine TL_pure rfl rfl rfl rfl (op_fieldAddr fa69_1 rfl rfl) ?_
    refine TL_pure rfl rfl rfl rfl (op_load_one ag66 rfl rfl) ?_
    refine TL_pure rfl rfl rfl rfl (op_fieldAddr fa69_1 rfl rfl) ?_
    refine TL_pure rfl rfl rfl rfl (op_load_one ag66 rfl rfl) ?_
    obtain ⟨r15, hr15, hm⟩ := bindS hm
    refine TL_callF (ACall.F (F := F) (c_laws_eqTermS p0.Post p1.Post r15 hr15)) Try.call94 rfl rfl rfl rfl rfl ?_
    refine TL_pure rfl rfl rfl rfl (op_not rfl) ?_
    refine TL_nil ?_
    refine T_cond rfl (fun hq => ?_) (fun hq => ?_)
    · replace hm := condT hq hm
      refine T_seq ?_
      refine T_region ?_
      refine TL_pure rfl rfl rfl rfl (op_assign rfl) ?_
      refine TL_nil ?_
      refine T_keepH [4] [] rfl rfl rfl rfl (by rw [hF]; rfl) ?_
      refine T_ret ?_
      obtain rfl := someI hm
      refine ⟨[_], [], ⟨rfl, trivial⟩, ?_, rfl, rfl, rfl, rfl⟩
      rfl
    · replace hm := condF hq hm
      refine T_skip ?_
      refine T_seq ?_
      refine T_seq ?_
      refine T_region ?_
      refine TL_pure rfl rfl rfl rfl (op_fieldAddr fa69_2 rfl rfl) ?_
      refine TL_pure rfl rfl rfl rfl (op_load_one ag24 rfl rfl) ?_
      refine TL_pure rfl rfl rfl rfl (op_fieldAddr fa69_2 rfl rfl) ?_
      refine TL_pure rfl rfl rfl rfl (op_load_one ag24 rfl rfl) ?_
      obtain ⟨r21, hr21, hm⟩ := bindS hm
      refine TL_callF (ACall.F (F := F) (c_laws_eqInstrS p0.Code p1.Code r21 hr21)) Try.call27 rfl rfl rfl rfl rfl ?_
      refine TL_pure rfl rfl rfl rfl (op_not rfl) ?_
      refine TL_nil ?_
      refine T_cond rfl (fun hq => ?_) (fun hq => ?_)
      · replace hm := condT hq hm
        refine T_seq ?_
        refine T_region ?_
        refine TL_pure rfl rfl rfl rfl (op_assign rfl) ?_
        refine TL_nil ?_
        refine T_keepH [4] [] rfl rfl rfl rfl (by rw [hF]; rfl) ?_
        refine T_ret ?_
        obtain rfl := someI hm
        refine ⟨[_], [], ⟨rfl, trivial⟩, ?_, rfl, rfl, rfl, rfl⟩
        rfl
      · replace hm := condF hq hm
        refine T_skip ?_
        refine T_seq ?_
        refine T_seq ?_
        refine T_region ?_
        refine TL_pure rfl rfl rfl rfl (op_fieldAddr fa69_3 rfl rfl) ?_
        refine TL_pure rfl rfl rfl rfl (op_load_one ag67 rfl rfl) ?_
        refine TL_pure rfl rfl rfl rfl (op_fieldAddr fa69_3 rfl rfl) ?_
        refine TL_pure rfl rfl rfl rfl (op_load_one ag67 rfl rfl) ?_
        obtain ⟨r27, hr27, hm⟩ := bindS hm
        refine TL_callF (ACall.F (F := F) (c_laws_eqPointS p0.Points p1.Points r27 hr27)) Try.call95 rfl rfl rfl rfl rfl ?_
        refine TL_pure rfl rfl rfl rfl (op_not rfl) ?_
        refine TL_nil ?_
        refine T_cond rfl (fun hq => ?_) (fun hq => ?_)
        · replace hm := condT hq hm
          refine T_seq ?_
          refine T_region ?_
          refine TL_pure rfl rfl rfl rfl (op_assign rfl) ?_
          refine TL_nil ?_
          refine T_keepH [4] [] rfl rfl rfl rfl (by rw [hF]; rfl) ?_
          refine T_ret ?_
          obtain rfl := someI hm
          refine ⟨[_], [], ⟨rfl, trivial⟩, ?_, rfl, rfl, rfl, rfl⟩
          rfl
        · replace hm := condF hq hm
          refine T_skip ?_
          refine T_seq ?_
          refine T_region ?_
          refine TL_pure rfl rfl rfl rfl (op_assign rfl) ?_
          refine TL_nil ?_
          refine T_keepH [4] [] rfl rfl rfl rfl (by rw [hF]; rfl) ?_
          refine T_ret ?_
          obtain rfl := someI hm
          refine ⟨[_], [], ⟨rfl, trivial⟩, ?_, rfl, rfl, rfl, rfl⟩
          rfl
theorem c_laws_markInt64S (p0 : List Int) (p1 : Int) (out : Int × (List Int)) (hm : m_laws_markInt64S p0 p1 = some out) (E0 : TypeId) : ACall Try.prog 31 [.ow 0, .int .i64 p1] [(0, .arr ⟨true, true⟩ 1 E0 (List.map a_i64 p0))] (.int .i64 out.1) [(0, .arr ⟨true, true⟩ 1 E0 (List.map a_i64 out.2))] := by
  refine ACall.intro Try.func31 rfl Try.ntmps31 rfl (fun F hF => ?_)
  unfold m_laws_markInt64S at hm
  refine T_seq ?_
  refine T_region ?_
  refine TL_pure rfl rfl rfl rfl (op_assign rfl) ?_
  refine TL_nil ?_
  refine T_seq ?_
  refine T_seq ?_
  refine T_region ?_
  refine TL_pure rfl rfl rfl rfl (op_assign rfl) ?_
  refine TL_nil ?_
  refine T_block ?_
  refine T_keepH [0, 1, 5] [0] rfl rfl rfl rfl (by rw [hF]; rfl) ?_
  refine T_loop ?_
  obtain ⟨u0, hl0, hm⟩ := bindS hm
  refine TR_iter2 (m_laws_markInt64S_L0) (fun (s0 : (List Int) × Int × Int) => ⟨[(0, .ow 0), (1, .int .i64 s0.2.1), (5, .int .i64 s0.2.2)], [(0, .arr ⟨true, true⟩ 1 E0 (List.map a_i64 s0.1))]⟩) (fun u0 => .exit 0) (fun u0 => ⟨[(1, .int .i64 u0.1)], [(0, .arr ⟨true, true⟩ 1 E0 (List.map a_i64 u0.2))]⟩) (fun u0 => m_laws_markInt64S_A0 u0 = some out) hl0 hm (fun u0 hm => ?_) (fun hx0 s0 c0 hm hc0 => ?_)
  · unfold m_laws_markInt64S_A0 at hm
    refine T_seq ?_
    refine T_region ?_
    refine TL_pure rfl rfl rfl rfl (op_move rfl) ?_
    refine TL_pure rfl rfl rfl rfl (op_assign rfl) ?_
    refine TL_nil ?_
    refine T_keepH [4] [0] rfl rfl rfl rfl (by rw [hF]; rfl) ?_
    refine T_ret ?_
    obtain rfl := someI hm
    refine ⟨[_], [0], ⟨rfl, trivial⟩, ?_, rfl, rfl, rfl, rfl⟩
    rfl
  · unfold m_laws_markInt64S_L0 at hm
    refine T_seq ?_
    refine T_seq ?_
    refine T_region ?_
    refine TL_pure rfl rfl rfl rfl (op_move rfl) ?_
    refine TL_pure rfl rfl rfl rfl (op_move rfl) ?_
    refine TL_pure rfl rfl rfl rfl (op_lenO Try.underlying26 rfl rfl (List.length_map _)) ?_
    refine TL_fact (fun _ _ _ hr => RelP.owLen (id := 0) rfl hr) (fun hlen8 => ?_)
    rw [List.length_map] at hlen8
    refine TL_pure rfl rfl rfl rfl (op_lss rfl rfl) ?_
    refine TL_nil ?_
    refine T_cond rfl (fun hq => ?_) (fun hq => ?_)
    · replace hm := condT hq hm
      refine T_skip ?_
      refine T_seq ?_
      refine T_block ?_
      refine T_seq ?_
      refine T_region ?_
      refine TL_pure rfl rfl rfl rfl (op_move rfl) ?_
      refine TL_pure rfl rfl rfl rfl (op_move rfl) ?_
      refine TL_pure rfl rfl rfl rfl (op_move rfl) ?_
      obtain ⟨x15, hx15, hm⟩ := bindS hm
      refine TL_pure rfl rfl rfl rfl (op_indexO el26 rfl rfl rfl hx15) ?_
      refine TL_storeFT sz2 rfl rfl ((getI_spec hx15).2) (v' := s0.2.1) rfl rfl rfl rfl rfl rfl rfl rfl rfl ?_
      refine TL_nil ?_
      refine T_region ?_
      refine TL_pure rfl rfl rfl rfl (op_move rfl) ?_
      refine TL_pure rfl rfl rfl rfl (op_addW rfl rfl) ?_
      refine TL_pure rfl rfl rfl rfl (op_assign rfl) ?_
      refine TL_nil ?_
      refine T_region ?_
      refine TL_pure rfl rfl rfl rfl (op_move rfl) ?_
      refine TL_pure rfl rfl rfl rfl (op_addW rfl rfl) ?_
      refine TL_pure rfl rfl rfl rfl (op_assign rfl) ?_
      refine TL_nil ?_
      refine TR_keepH [0, 1, 5] [0] rfl rfl rfl rfl (by rw [hF]; rfl) ?_
      obtain rfl := someI hm
      have hn := CtlOK_next hc0
      exact hn _ rfl
    · replace hm := condF hq hm
      refine T_keepH [1] [0] rfl rfl rfl rfl (by rw [hF]; rfl) ?_
      refine T_exit ?_
      obtain rfl := someI hm
      have hn := CtlOK_out hc0
      exact hx0 (s0.2.1, s0.1) hn
theorem c_laws_markTermS (p0 : List Term) (p1 : Int) (out : Int × (List Term)) (hm : m_laws_markTermS p0 p1 = some out) (E0 : TypeId) : ACall Try.prog 96 [.ow 0, .int .i64 p1] [(0, .arr ⟨true, true⟩ 2 E0 (List.map a_Term p0))] (.int .i64 out.1) [(0, .arr ⟨true, true⟩ 2 E0 (List.map a_Term out.2))] := by
  refine ACall.intro Try.func96 rfl Try.ntmps96 rfl (fun F hF => ?_)
  unfold m_laws_markTermS at hm
  refine T_seq ?_
  refine T_region ?_
  refine TL_pure rfl rfl rfl rfl (op_assign rfl) ?_
  refine TL_nil ?_
  refine T_seq ?_
  refine T_seq ?_
  refine T_region ?_
  refine TL_pure rfl rfl rfl rfl (op_assign rfl) ?_
  refine TL_nil ?_
  refine T_block ?_
  refine T_keepH [0, 1, 5] [0] rfl rfl rfl rfl (by rw [hF]; rfl) ?_
  refine T_loop ?_
  obtain ⟨u0, hl0, hm⟩ := bindS hm
  refine TR_iter2 (m_laws_markTermS_L0) (fun (s0 : (List Term) × Int × Int) => ⟨[(0, .ow 0), (1, .int .i64 s0.2.1), (5, .int .i64 s0.2.2)], [(0, .arr ⟨true, true⟩ 2 E0 (List.map a_Term s0.1))]⟩) (fun u0 => .exit 0) (fun u0 => ⟨[(1, .int .i64 u0.1)], [(0, .arr ⟨true, true⟩ 2 E0 (List.map a_Term u0.2))]⟩) (fun u0 => m_laws_markTermS_A0 u0 = some out) hl0 hm (fun u0 hm => ?_) (fun hx0 s0 c0 hm hc0 => ?_)
  · unfold m_laws_markTermS_A0 at hm
    refine T_seq ?_
    refine T_region ?_
    refine TL_pure rfl rfl rfl rfl (op_move rfl) ?_
    refine TL_pure rfl rfl rfl rfl (op_assign rfl) ?_
    refine TL_nil ?_
    refine T_keepH [4] [0] rfl rfl rfl rfl (by rw [hF]; rfl) ?_
    refine T_ret ?_
    obtain rfl := someI hm
    refine ⟨[_], [0], ⟨rfl, trivial⟩, ?_, rfl, rfl, rfl, rfl⟩
    rfl
  · unfold m_laws_markTermS_L0 at hm
    refine T_seq ?_
    refine T_seq ?_
    refine T_region ?_
    refine TL_pure rfl rfl rfl rfl (op_move rfl) ?_
    refine TL_pure rfl rfl rfl rfl (op_move rfl) ?_
    refine TL_pure rfl rfl rfl rfl (op_lenO Try.underlying66 rfl rfl (List.length_map _)) ?_
    refine TL_fact (fun _ _ _ hr => RelP.owLen (id := 0) rfl hr) (fun hlen8 => ?_)
    rw [List.length_map] at hlen8
    refine TL_pure rfl rfl rfl rfl (op_lss rfl rfl) ?_
    refine TL_nil ?_
    refine T_cond rfl (fun hq => ?_) (fun hq => ?_)
    · replace hm := condT hq hm
      refine T_skip ?_
      refine T_seq ?_
      refine T_block ?_
      refine T_seq ?_
      refine T_region ?_
      refine TL_pure rfl rfl rfl rfl (op_move rfl) ?_
      refine TL_pure rfl rfl rfl rfl (op_move rfl) ?_
      refine TL_pure rfl rfl rfl rfl (op_move rfl) ?_
      obtain ⟨x15, hx15, hm⟩ := bindS hm
      refine TL_pure rfl rfl rfl rfl (op_indexO el66 rfl rfl rfl hx15) ?_
      refine TL_pure rfl rfl rfl rfl (op_fieldAddr fa184_0 rfl rfl) ?_
      refine TL_storeFT sz2 rfl rfl ((getI_spec hx15).2) (v' := (Term.mk s0.2.1 x15.Coeffs)) rfl rfl rfl rfl rfl rfl rfl rfl rfl ?_
      refine TL_nil ?_
      refine T_seq ?_
      refine T_region ?_
      refine TL_pure rfl rfl rfl rfl (op_move rfl) ?_
      refine TL_pure rfl rfl rfl rfl (op_addW rfl rfl) ?_
      refine TL_pure rfl rfl rfl rfl (op_assign rfl) ?_
      refine TL_nil ?_
      refine T_region ?_
      refine TL_pure rfl rfl rfl rfl (op_move rfl) ?_
      refine TL_pure rfl rfl rfl rfl (op_move rfl) ?_
      obtain ⟨x21, hx21, hm⟩ := bindS hm
      refine TL_pure rfl rfl rfl rfl (op_indexO el66 rfl rfl rfl hx21) ?_
      refine TL_pure rfl rfl rfl rfl (op_fieldAddr fa184_1 rfl rfl) ?_
      refine TL_pure rfl rfl rfl rfl (op_loadD1 ag26 rfl rfl ((getI_spec hx21).2) rfl rfl rfl rfl) ?_
      refine TL_pure rfl rfl rfl rfl (op_move rfl) ?_
      obtain ⟨r25, hr25, hm⟩ := bindS hm
      refine TL_callSub (id := 0) (i := (s0.2.2).toNat) (j := 1) (e' := a_Term (Term.mk x21.Const r25.2)) (es' := List.map a_Term ((s0.1.set ((s0.2.2).toNat) (Term.mk s0.2.1 x15.Coeffs)).set ((s0.2.2).toNat) (Term.mk x21.Const r25.2))) (fun E' => ACall.F (F := F) (c_laws_markInt64S x21.Coeffs (w64 (s0.2.1 + (1 : Int))) r25 hr25 E')) Try.call31 rfl rfl (get_map ((getI_spec hx21).2)) rfl rfl rfl rfl ⟨.inl ⟨rfl, rfl⟩, .inr ⟨rfl, rfl⟩, trivial⟩ rfl rfl rfl (List.map_set) rfl rfl rfl ?_
      refine TL_pure rfl rfl rfl rfl (op_assign rfl) ?_
      refine TL_nil ?_
      refine T_region ?_
      refine TL_pure rfl rfl rfl rfl (op_move rfl) ?_
      refine TL_pure rfl rfl rfl rfl (op_addW rfl rfl) ?_
      refine TL_pure rfl rfl rfl rfl (op_assign rfl) ?_
      refine TL_nil ?_
      refine TR_keepH [0, 1, 5] [0] rfl rfl rfl rfl (by rw [hF]; rfl) ?_
      obtain rfl := someI hm
      have hn := CtlOK_next hc0
      exact hn _ rfl
    · replace hm := condF hq hm
      refine T_keepH [1] [0] rfl rfl rfl rfl (by rw [hF]; rfl) ?_
      refine T_exit ?_
      obtain rfl := someI hm
      have hn := CtlOK_out hc0
      exact hx0 (s0.2.1, s0.1) hn
theorem c_laws_markInstrS (p0 : List Instr) (p1 : Int) (out : Int × (List Instr)) (hm : m_laws_markInstrS p0 p1 = some out) (E0 : TypeId) : ACall Try.prog 29 [.ow 0, .int .i64 p1] [(0, .arr ⟨true, true⟩ 2 E0 (List.map a_Instr p0))] (.int .i64 out.1) [(0, .arr ⟨true, true⟩ 2 E0 (List.map a_Instr out.2))] := by
  refine ACall.intro Try.func29 rfl Try.ntmps29 rfl (fun F hF => ?_)
  unfold m_laws_markInstrS at hm
  refine T_seq ?_
  refine T_region ?_
  refine TL_pure rfl rfl rfl rfl (op_assign rfl) ?_
  refine TL_nil ?_
  refine T_seq ?_
  refine T_seq ?_
  refine T_region ?_
  refine TL_pure rfl rfl rfl rfl (op_assign rfl) ?_
  refine TL_nil ?_
  refine T_block ?_
  refine T_keepH [0, 1, 5] [0] rfl rfl rfl rfl (by rw [hF]; rfl) ?_
  refine T_loop ?_
  obtain ⟨u0, hl0, hm⟩ := bindS hm
  refine TR_iter2 (m_laws_markInstrS_L0) (fun (s0 : (List Instr) × Int × Int) => ⟨[(0, .ow 0), (1, .int .i64 s0.2.1), (5, .int .i64 s0.2.2)], [(0, .arr ⟨true, true⟩ 2 E0 (List.map a_Instr s0.1))]⟩) (fun u0 => .exit 0) (fun u0 => ⟨[(1, .int .i64 u0.1)], [(0, .arr ⟨true, true⟩ 2 E0 (List.map a_Instr u0.2))]⟩) (fun u0 => m_laws_markInstrS_A0 u0 = some out) hl0 hm (fun u0 hm => ?_) (fun hx0 s0 c0 hm hc0 => ?_)
  · unfold m_laws_markInstrS_A0 at hm
    refine T_seq ?_
    refine T_region ?_
    refine TL_pure rfl rfl rfl rfl (op_move rfl) ?_
    refine TL_pure rfl rfl rfl rfl (op_assign rfl) ?_
    refine TL_nil ?_
    refine T_keepH [4] [0] rfl rfl rfl rfl (by rw [hF]; rfl) ?_
    refine T_ret ?_
    obtain rfl := someI hm
    refine ⟨[_], [0], ⟨rfl, trivial⟩, ?_, rfl, rfl, rfl, rfl⟩
    rfl
  · unfold m_laws_markInstrS_L0 at hm
    refine T_seq ?_
    refine T_seq ?_
    refine T_region ?_
    refine TL_pure rfl rfl rfl rfl (op_move rfl) ?_
    refine TL_pure rfl rfl rfl rfl (op_move rfl) ?_
    refine TL_pure rfl rfl rfl rfl (op_lenO Try.underlying24 rfl rfl (List.length_map _)) ?_
    refine TL_fact (fun _ _ _ hr => RelP.owLen (id := 0) rfl hr) (fun hlen8 => ?_)
    rw [List.length_map] at hlen8
    refine TL_pure rfl rfl rfl rfl (op_lss rfl rfl) ?_
    refine TL_nil ?_
    refine T_cond rfl (fun hq => ?_) (fun hq => ?_)
    · replace hm := condT hq hm
      refine T_skip ?_
      refine T_seq ?_
      refine T_block ?_
      refine T_seq ?_
      refine T_region ?_
      refine TL_pure rfl rfl rfl rfl (op_move rfl) ?_
      refine TL_pure rfl rfl rfl rfl (op_move rfl) ?_
      refine TL_pure rfl rfl rfl rfl (op_move rfl) ?_
      obtain ⟨x15, hx15, hm⟩ := bindS hm
      refine TL_pure rfl rfl rfl rfl (op_indexO el24 rfl rfl rfl hx15) ?_
      refine TL_pure rfl rfl rfl rfl (op_fieldAddr fa40_0 rfl rfl) ?_
      refine TL_storeFT sz2 rfl rfl ((getI_spec hx15).2) (v' := (Instr.mk s0.2.1 x15.Arg)) rfl rfl rfl rfl rfl rfl rfl rfl rfl ?_
      refine TL_nil ?_
      refine T_seq ?_
      refine T_region ?_
      refine TL_pure rfl rfl rfl rfl (op_move rfl) ?_
      refine TL_pure rfl rfl rfl rfl (op_addW rfl rfl) ?_
      refine TL_pure rfl rfl rfl rfl (op_assign rfl) ?_
      refine TL_nil ?_
      refine T_seq ?_
      refine T_region ?_
      refine TL_pure rfl rfl rfl rfl (op_move rfl) ?_
      refine TL_pure rfl rfl rfl rfl (op_move rfl) ?_
      refine TL_pure rfl rfl rfl rfl (op_move rfl) ?_
      obtain ⟨x22, hx22, hm⟩ := bindS hm
      refine TL_pure rfl rfl rfl rfl (op_indexO el24 rfl rfl rfl hx22) ?_
      refine TL_pure rfl rfl rfl rfl (op_fieldAddr fa40_1 rfl rfl) ?_
      refine TL_storeFT sz2 rfl rfl ((getI_spec hx22).2) (v' := (Instr.mk x22.Op (w64 (s0.2.1 + (1 : Int))))) rfl rfl rfl rfl rfl rfl rfl rfl rfl ?_
      refine TL_nil ?_
      refine T_region ?_
      refine TL_pure rfl rfl rfl rfl (op_move rfl) ?_
      refine TL_pure rfl rfl rfl rfl (op_addW rfl rfl) ?_
      refine TL_pure rfl rfl rfl rfl (op_assign rfl) ?_
      refine TL_nil ?_
      refine T_region ?_
      refine TL_pure rfl rfl rfl rfl (op_move rfl) ?_
      refine TL_pure rfl rfl rfl rfl (op_addW rfl rfl) ?_
      refine TL_pure rfl rfl rfl rfl (op_assign rfl) ?_
      refine TL_nil ?_
      refine TR_keepH [0, 1, 5] [0] rfl rfl rfl rfl (by rw [hF]; rfl) ?_
      obtain rfl := someI hm
      have hn := CtlOK_next hc0
      exact hn _ rfl
    · replace hm := condF hq hm
      refine T_keepH [1] [0] rfl rfl rfl rfl (by rw [hF]; rfl) ?_
      refine T_exit ?_
      obtain rfl := someI hm
      have hn := CtlOK_out hc0
      exact hx0 (s0.2.1, s0.1) hn
theorem c_laws_markPointS (p0 : List Point) (p1 : Int) (out : Int × (List Point)) (hm : m_laws_markPointS p0 p1 = some out) (E0 : TypeId) : ACall Try.prog 97 [.ow 0, .int .i64 p1] [(0, .arr ⟨true, true⟩ 2 E0 (List.map a_Point p0))] (.int .i64 out.1) [(0, .arr ⟨true, true⟩ 2 E0 (List.map a_Point out.2))] := by
  refine ACall.intro Try.func97 rfl Try.ntmps97 rfl (fun F hF => ?_)
  unfold m_laws_markPointS at hm
  refine T_seq ?_
  refine T_region ?_
  refine TL_pure rfl rfl rfl rfl (op_assign rfl) ?_
  refine TL_nil ?_
  refine T_seq ?_
  refine T_seq ?_
  refine T_region ?_
  refine TL_pure rfl rfl rfl rfl (op_assign rfl) ?_
  refine TL_nil ?_
  refine T_block ?_
  refine T_keepH [0, 1, 5] [0] rfl rfl rfl rfl (by rw [hF]; rfl) ?_
  refine T_loop ?_
  obtain ⟨u0, hl0, hm⟩ := bindS hm
  refine TR_iter2 (m_laws_markPointS_L0) (fun (s0 : (List Point) × Int × Int) => ⟨[(0, .ow 0), (1, .int .i64 s0.2.1), (5, .int .i64 s0.2.2)], [(0, .arr ⟨true, true⟩ 2 E0 (List.map a_Point s0.1))]⟩) (fun u0 => .exit 0) (fun u0 => ⟨[(1, .int .i64 u0.1)], [(0, .arr ⟨true, true⟩ 2 E0 (List.map a_Point u0.2))]⟩) (fun u0 => m_laws_markPointS_A0 u0 = some out) hl0 hm (fun u0 hm => ?_) (fun hx0 s0 c0 hm hc0 => ?_)
  · unfold m_laws_markPointS_A0 at hm
    refine T_seq ?_
    refine T_region ?_
    refine TL_pure rfl rfl rfl rfl (op_move rfl) ?_
    refine TL_pure rfl rfl rfl rfl (op_assign rfl) ?_
    refine TL_nil ?_
    refine T_keepH [4] [0] rfl rfl rfl rfl (by rw [hF]; rfl) ?_
    refine T_ret ?_
    obtain rfl := someI hm
    refine ⟨[_], [0], ⟨rfl, trivial⟩, ?_, rfl, rfl, rfl, rfl⟩
    rfl
  · unfold m_laws_markPointS_L0 at hm
    refine T_seq ?_
    refine T_seq ?_
    refine T_region ?_
    refine TL_pure rfl rfl rfl rfl (op_move rfl) ?_
    refine TL_pure rfl rfl rfl rfl (op_move rfl) ?_
    refine TL_pure rfl rfl rfl rfl (op_lenO Try.underlying67 rfl rfl (List.length_map _)) ?_
    refine TL_fact (fun _ _ _ hr => RelP.owLen (id := 0) rfl hr) (fun hlen8 => ?_)
    rw [List.length_map] at hlen8
    refine TL_pure rfl rfl rfl rfl (op_lss rfl rfl) ?_
    refine TL_nil ?_
    refine T_cond rfl (fun hq => ?_) (fun hq => ?_)
    · replace hm := condT hq hm
      refine T_skip ?_
      refine T_seq ?_
      refine T_block ?_
      refine T_seq ?_
      refine T_region ?_
      refine TL_pure rfl rfl rfl rfl (op_move rfl) ?_
      refine TL_pure rfl rfl rfl rfl (op_move rfl) ?_
      refine TL_pure rfl rfl rfl rfl (op_move rfl) ?_
      obtain ⟨x15, hx15, hm⟩ := bindS hm
      refine TL_pure rfl rfl rfl rfl (op_indexO el67 rfl rfl rfl hx15) ?_
      refine TL_pure rfl rfl rfl rfl (op_fieldAddr fa81_0 rfl rfl) ?_
      refine TL_storeFT sz2 rfl rfl ((getI_spec hx15).2) (v' := (Point.mk s0.2.1 x15.Facts)) rfl rfl rfl rfl rfl rfl rfl rfl rfl ?_
      refine TL_nil ?_
      refine T_seq ?_
      refine T_region ?_
      refine TL_pure rfl rfl rfl rfl (op_move rfl) ?_
      refine TL_pure rfl rfl rfl rfl (op_addW rfl rfl) ?_
      refine TL_pure rfl rfl rfl rfl (op_assign rfl) ?_
      refine TL_nil ?_
      refine T_region ?_
      refine TL_pure rfl rfl rfl rfl (op_move rfl) ?_
      refine TL_pure rfl rfl rfl rfl (op_move rfl) ?_
      obtain ⟨x21, hx21, hm⟩ := bindS hm
      refine TL_pure rfl rfl rfl rfl (op_indexO el67 rfl rfl rfl hx21) ?_
      refine TL_pure rfl rfl rfl rfl (op_fieldAddr fa81_1 rfl rfl) ?_
      refine TL_pure rfl rfl rfl rfl (op_loadD1 ag66 rfl rfl ((getI_spec hx21).2) rfl rfl rfl rfl) ?_
      refine TL_pure rfl rfl rfl rfl (op_move rfl) ?_
      obtain ⟨r25, hr25, hm⟩ := bindS hm
      refine TL_callSub (id := 0) (i := (s0.2.2).toNat) (j := 1) (e' := a_Point (Point.mk x21.At r25.2)) (es' := List.map a_Point ((s0.1.set ((s0.2.2).toNat) (Point.mk s0.2.1 x15.Facts)).set ((s0.2.2).toNat) (Point.mk x21.At r25.2))) (fun E' => ACall.F (F := F) (c_laws_markTermS x21.Facts (w64 (s0.2.1 + (1 : Int))) r25 hr25 E')) Try.call96 rfl rfl (get_map ((getI_spec hx21).2)) rfl rfl rfl rfl ⟨.inl ⟨rfl, rfl⟩, .inr ⟨rfl, rfl⟩, trivial⟩ rfl rfl rfl (List.map_set) rfl rfl rfl ?_
      refine TL_pure rfl rfl rfl rfl (op_assign rfl) ?_
      refine TL_nil ?_
      refine T_region ?_
      refine TL_pure rfl rfl rfl rfl (op_move rfl) ?_
      refine TL_pure rfl rfl rfl rfl (op_addW rfl rfl) ?_
      refine TL_pure rfl rfl rfl rfl (op_assign rfl) ?_
      refine TL_nil ?_
      refine TR_keepH [0, 1, 5] [0] rfl rfl rfl rfl (by rw [hF]; rfl) ?_
      obtain rfl := someI hm
      have hn := CtlOK_next hc0
      exact hn _ rfl
    · replace hm := condF hq hm
      refine T_keepH [1] [0] rfl rfl rfl rfl (by rw [hF]; rfl) ?_
      refine T_exit ?_
      obtain rfl := someI hm
      have hn := CtlOK_out hc0
      exact hx0 (s0.2.1, s0.1) hn
theorem c_laws_markAnnotated (p0 : Annotated) (p1 : Int) (out : Int × (List Term) × (List Term) × (List Instr) × (List Point)) (hm : m_laws_markAnnotated p0 p1 = some out) (E0 : TypeId) (E1 : TypeId) (E2 : TypeId) (E3 : TypeId) : ACall Try.prog 46 [.agg [.ow 0, .ow 1, .ow 2, .ow 3], .int .i64 p1] [(0, .arr ⟨true, true⟩ 2 E0 (List.map a_Term p0.Pre)), (1, .arr ⟨true, true⟩ 2 E1 (List.map a_Term p0.Post)), (2, .arr ⟨true, true⟩ 2 E2 (List.map a_Instr p0.Code)), (3, .arr ⟨true, true⟩ 2 E3 (List.map a_Point p0.Points))] (.int .i64 out.1) [(0, .arr ⟨true, true⟩ 2 E0 (List.map a_Term out.2.1)), (1, .arr ⟨true, true⟩ 2 E1 (List.map a_Term out.2.2.1)), (2, .arr ⟨true, true⟩ 2 E2 (List.map a_Instr out.2.2.2.1)), (3, .arr ⟨true, true⟩ 2 E3 (List.map a_Point out.2.2.2.2))] := by
  refine ACall.intro Try.func46 rfl Try.ntmps46 rfl (fun F hF => ?_)
  unfold m_laws_markAnnotated at hm
  refine T_seq ?_
  refine T_region ?_
  refine TL_box 11 rfl rfl rfl rfl rfl rfl rfl ?_
  refine TL_pure rfl rfl rfl rfl (op_assign rfl) ?_
  refine TL_nil ?_
  refine T_seq ?_
  refine T_region ?_
  refine TL_pure rfl rfl rfl rfl (op_fieldAddr fa69_0 rfl rfl) ?_
  refine TL_pure rfl rfl rfl rfl (op_load_one ag66 rfl rfl) ?_
  refine TL_pure rfl rfl rfl rfl (op_move rfl) ?_
  obtain ⟨r8, hr8, hm⟩ := bindS hm
  refine TL_call [(0, 0)] [] [] (ACall.F (F := F) (c_laws_markTermS p0.Pre p1 r8 hr8 _)) Try.call96 rfl rfl rfl rfl rfl ⟨rfl, trivial⟩ rfl rfl rfl rfl rfl rfl rfl rfl rfl rfl rfl ?_
  refine TL_pure rfl rfl rfl rfl (op_assign rfl) ?_
  refine TL_nil ?_
  refine T_seq ?_
  refine T_region ?_
  refine TL_pure rfl rfl rfl rfl (op_fieldAddr fa69_1 rfl rfl) ?_
  refine TL_pure rfl rfl rfl rfl (op_load_one ag66 rfl rfl) ?_
  refine TL_pure rfl rfl rfl rfl (op_move rfl) ?_
  obtain ⟨r12, hr12, hm⟩ := bindS hm
  refine TL_call [(0, 1)] [] [] (ACall.F (F := F) (c_laws_markTermS p0.Post r8.1 r12 hr12 _)) Try.call96 rfl rfl rfl rfl rfl ⟨rfl, trivial⟩ rfl rfl rfl rfl rfl rfl rfl rfl rfl rfl rfl ?_
  refine TL_pure rfl rfl rfl rfl (op_assign rfl) ?_
  refine TL_nil ?_
  refine T_seq ?_
  refine T_region ?_
  refine TL_pure rfl rfl rfl rfl (op_fieldAddr fa69_2 rfl rfl) ?_
  refine TL_pure rfl rfl rfl rfl (op_load_one ag24 rfl rfl) ?_
  refine TL_pure rfl rfl rfl rfl (op_move rfl) ?_
  obtain ⟨r16, hr16, hm⟩ := bindS hm
  refine TL_call [(0, 2)] [] [] (ACall.F (F := F) (c_laws_markInstrS p0.Code r12.1 r16 hr16 _)) Try.call29 rfl rfl rfl rfl rfl ⟨rfl, trivial⟩ rfl rfl rfl rfl rfl rfl rfl rfl rfl rfl rfl ?_
  refine TL_pure rfl rfl rfl rfl (op_assign rfl) ?_
  refine TL_nil ?_
  refine T_seq ?_
  refine T_region ?_
  refine TL_pure rfl rfl rfl rfl (op_fieldAddr fa69_3 rfl rfl) ?_
  refine TL_pure rfl rfl rfl rfl (op_load_one ag67 rfl rfl) ?_
  refine TL_pure rfl rfl rfl rfl (op_move rfl) ?_
  obtain ⟨r20, hr20, hm⟩ := bindS hm
  refine TL_call [(0, 3)] [] [] (ACall.F (F := F) (c_laws_markPointS p0.Points r16.1 r20 hr20 _)) Try.call97 rfl rfl rfl rfl rfl ⟨rfl, trivial⟩ rfl rfl rfl rfl rfl rfl rfl rfl rfl rfl rfl ?_
  refine TL_pure rfl rfl rfl rfl (op_assign rfl) ?_
  refine TL_nil ?_
  refine T_seq ?_
  refine T_region ?_
  refine TL_pure rfl rfl rfl rfl (op_move rfl) ?_
  refine TL_pure rfl rfl rfl rfl (op_assign rfl) ?_
  refine TL_nil ?_
  refine T_keepH [4] [0, 1, 2, 3] rfl rfl rfl rfl (by rw [hF]; rfl) ?_
  refine T_ret ?_
  obtain rfl := someI hm
  refine ⟨[_], [0, 1, 2, 3], ⟨rfl, trivial⟩, ?_, rfl, rfl, rfl, rfl⟩
  rfl
theorem c_laws_heldInt64S (p0 : List Int) (p1 : Int) (out : Int) (hm : m_laws_heldInt64S p0 p1 = some out) : ACall Try.prog 32 [.sl 1 (List.map a_i64 p0), .int .i64 p1] [] (.int .i64 out) [] := by
  refine ACall.intro Try.func32 rfl Try.ntmps32 rfl (fun F hF => ?_)
  unfold m_laws_heldInt64S at hm
  refine T_seq ?_
  refine T_region ?_
  refine TL_pure rfl rfl rfl rfl (op_assign rfl) ?_
  refine TL_nil ?_
  refine T_seq ?_
  refine T_seq ?_
  refine T_region ?_
  refine TL_pure rfl rfl rfl rfl (op_assign rfl) ?_
  refine TL_nil ?_
  refine T_block ?_
  refine T_keepH [0, 1, 5] [] rfl rfl rfl rfl (by rw [hF]; rfl) ?_
  refine T_loop ?_
  obtain ⟨u0, hl0, hm⟩ := bindS hm
  refine TR_iter2 (m_laws_heldInt64S_L0 p0) (fun (s0 : Int × Int) => ⟨[(0, .sl 1 (List.map a_i64 p0)), (1, .int .i64 s0.1), (5, .int .i64 s0.2)], []⟩) (fun u0 => match u0 with | .inl u0 => .exit 0 | .inr u0 => .ret) (fun u0 => match u0 with | .inl u0 => ⟨[(1, .int .i64 u0)], []⟩ | .inr u0 => ⟨[(4, .int .i64 u0)], []⟩) (fun u0 => m_laws_heldInt64S_A0 u0 = some out) hl0 hm (fun u0 hm => ?_) (fun hx0 s0 c0 hm hc0 => ?_)
  · rcases u0 with u0 | u0
    · unfold m_laws_heldInt64S_A0 at hm
      refine T_seq ?_
      refine T_region ?_
      refine TL_pure rfl rfl rfl rfl (op_move rfl) ?_
      refine TL_pure rfl rfl rfl rfl (op_assign rfl) ?_
      refine TL_nil ?_
      refine T_keepH [4] [] rfl rfl rfl rfl (by rw [hF]; rfl) ?_
      refine T_ret ?_
      obtain rfl := someI hm
      refine ⟨[_], [], ⟨rfl, trivial⟩, ?_, rfl, rfl, rfl, rfl⟩
      rfl
    · unfold m_laws_heldInt64S_A0 at hm
      obtain rfl := someI hm
      refine ⟨[_], [], ⟨rfl, trivial⟩, ?_, rfl, rfl, rfl, rfl⟩
      rfl
  · unfold m_laws_heldInt64S_L0 at hm
    refine T_seq ?_
    refine T_seq ?_
    refine T_region ?_
    refine TL_pure rfl rfl rfl rfl (op_move rfl) ?_
    refine TL_pure rfl rfl rfl rfl (op_move rfl) ?_
    refine TL_pure rfl rfl rfl rfl (op_lenT Try.underlying26 rfl (List.length_map _)) ?_
    refine TL_fact (fun _ _ _ hr => RelP.slLen (i := 7) rfl hr) (fun hlen8 => ?_)
    rw [List.length_map] at hlen8
    refine TL_pure rfl rfl rfl rfl (op_lss rfl rfl) ?_
    refine TL_nil ?_
    refine T_cond rfl (fun hq => ?_) (fun hq => ?_)
    · replace hm := condT hq hm
      refine T_skip ?_
      refine T_seq ?_
      refine T_block ?_
      refine T_seq ?_
      refine T_seq ?_
      refine T_region ?_
      refine TL_pure rfl rfl rfl rfl (op_move rfl) ?_
      refine TL_pure rfl rfl rfl rfl (op_move rfl) ?_
      obtain ⟨x14, hx14, hm⟩ := bindS hm
      refine TL_pure rfl rfl rfl rfl (op_indexT el26 rfl rfl hx14 rfl) ?_
      refine TL_pure rfl rfl rfl rfl (op_load_one ag2 rfl rfl) ?_
      refine TL_pure rfl rfl rfl rfl (op_move rfl) ?_
      refine TL_pure rfl rfl rfl rfl (op_neq rfl rfl) ?_
      refine TL_nil ?_
      refine T_cond rfl (fun hq => ?_) (fun hq => ?_)
      · replace hm := condT hq hm
        refine T_seq ?_
        refine T_region ?_
        refine TL_pure rfl rfl rfl rfl (op_assign rfl) ?_
        refine TL_nil ?_
        refine T_keepH [4] [] rfl rfl rfl rfl (by rw [hF]; rfl) ?_
        refine T_ret ?_
        obtain rfl := someI hm
        have hn := CtlOK_out hc0
        exact hx0 (.inr (-1 : Int)) hn
      · replace hm := condF hq hm
        refine T_skip ?_
        refine T_region ?_
        refine TL_pure rfl rfl rfl rfl (op_move rfl) ?_
        refine TL_pure rfl rfl rfl rfl (op_addW rfl rfl) ?_
        refine TL_pure rfl rfl rfl rfl (op_assign rfl) ?_
        refine TL_nil ?_
        refine T_region ?_
        refine TL_pure rfl rfl rfl rfl (op_move rfl) ?_
        refine TL_pure rfl rfl rfl rfl (op_addW rfl rfl) ?_
        refine TL_pure rfl rfl rfl rfl (op_assign rfl) ?_
        refine TL_nil ?_
        refine TR_keepH [0, 1, 5] [] rfl rfl rfl rfl (by rw [hF]; rfl) ?_
        obtain rfl := someI hm
        have hn := CtlOK_next hc0
        exact hn _ rfl
    · replace hm := condF hq hm
      refine T_keepH [1] [] rfl rfl rfl rfl (by rw [hF]; rfl) ?_
      refine T_exit ?_
      obtain rfl := someI hm
      have hn := CtlOK_out hc0
      exact hx0 (.inl s0.1) hn
theorem c_laws_heldTermS (p0 : List Term) (p1 : Int) (out : Int) (hm : m_laws_heldTermS p0 p1 = some out) : ACall Try.prog 98 [.sl 2 (List.map a_Term p0), .int .i64 p1] [] (.int .i64 out) [] := by
  refine ACall.intro Try.func98 rfl Try.ntmps98 rfl (fun F hF => ?_)
  unfold m_laws_heldTermS at hm
  refine T_seq ?_
  refine T_region ?_
  refine TL_pure rfl rfl rfl rfl (op_assign rfl) ?_
  refine TL_nil ?_
  refine T_seq ?_
  refine T_seq ?_
  refine T_region ?_
  refine TL_pure rfl rfl rfl rfl (op_assign rfl) ?_
  refine TL_nil ?_
  refine T_block ?_
  refine T_keepH [0, 1, 5] [] rfl rfl rfl rfl (by rw [hF]; rfl) ?_
  refine T_loop ?_
  obtain ⟨u0, hl0, hm⟩ := bindS hm
  refine TR_iter2 (m_laws_heldTermS_L0 p0) (fun (s0 : Int × Int) => ⟨[(0, .sl 2 (List.map a_Term p0)), (1, .int .i64 s0.1), (5, .int .i64 s0.2)], []⟩) (fun u0 => match u0 with | .inl u0 => .exit 0 | .inr u0 => .ret) (fun u0 => match u0 with | .inl u0 => ⟨[(1, .int .i64 u0)], []⟩ | .inr u0 => ⟨[(4, .int .i64 u0)], []⟩) (fun u0 => m_laws_heldTermS_A0 u0 = some out) hl0 hm (fun u0 hm => ?_) (fun hx0 s0 c0 hm hc0 => ?_)
  · rcases u0 with u0 | u0
    · unfold m_laws_heldTermS_A0 at hm
      refine T_seq ?_
      refine T_region ?_
      refine TL_pure rfl rfl rfl rfl (op_move rfl) ?_
      refine TL_pure rfl rfl rfl rfl (op_assign rfl) ?_
      refine TL_nil ?_
      refine T_keepH [4] [] rfl rfl rfl rfl (by rw [hF]; rfl) ?_
      refine T_ret ?_
      obtain rfl := someI hm
      refine ⟨[_], [], ⟨rfl, trivial⟩, ?_, rfl, rfl, rfl, rfl⟩
      rfl
    · unfold m_laws_heldTermS_A0 at hm
      obtain rfl := someI hm
      refine ⟨[_], [], ⟨rfl, trivial⟩, ?_, rfl, rfl, rfl, rfl⟩
      rfl
  · unfold m_laws_heldTermS_L0 at hm
    refine T_seq ?_
    refine T_seq ?_
    refine T_region ?_
    refine TL_pure rfl rfl rfl rfl (op_move rfl) ?_
    refine TL_pure rfl rfl rfl rfl (op_move rfl) ?_
    refine TL_pure rfl rfl rfl rfl (op_lenT Try.underlying66 rfl (List.length_map _)) ?_
    refine TL_fact (fun _ _ _ hr => RelP.slLen (i := 7) rfl hr) (fun hlen8 => ?_)
    rw [List.length_map] at hlen8
    refine TL_pure rfl rfl rfl rfl (op_lss rfl rfl) ?_
    refine TL_nil ?_
    refine T_cond rfl (fun hq => ?_) (fun hq => ?_)
    · replace hm := condT hq hm
      refine T_skip ?_
      refine T_seq ?_
      refine T_block ?_
      refine T_seq ?_
      refine T_seq ?_
      refine T_region ?_
      refine TL_pure rfl rfl rfl rfl (op_move rfl) ?_
      refine TL_pure rfl rfl rfl rfl (op_move rfl) ?_
      obtain ⟨x14, hx14, hm⟩ := bindS hm
      refine TL_pure rfl rfl rfl rfl (op_indexT el66 rfl rfl hx14 rfl) ?_
      refine TL_pure rfl rfl rfl rfl (op_fieldAddrC (n := 1) fa184_0 rfl rfl rfl) ?_
      refine TL_pure rfl rfl rfl rfl (op_load_one ag2 rfl rfl) ?_
      refine TL_pure rfl rfl rfl rfl (op_move rfl) ?_
      refine TL_pure rfl rfl rfl rfl (op_neq rfl rfl) ?_
      refine TL_nil ?_
      refine T_cond rfl (fun hq => ?_) (fun hq => ?_)
      · replace hm := condT hq hm
        refine T_seq ?_
        refine T_region ?_
        refine TL_pure rfl rfl rfl rfl (op_assign rfl) ?_
        refine TL_nil ?_
        refine T_keepH [4] [] rfl rfl rfl rfl (by rw [hF]; rfl) ?_
        refine T_ret ?_
        obtain rfl := someI hm
        have hn := CtlOK_out hc0
        exact hx0 (.inr (-1 : Int)) hn
      · replace hm := condF hq hm
        refine T_skip ?_
        refine T_seq ?_
        refine T_region ?_
        refine TL_pure rfl rfl rfl rfl (op_move rfl) ?_
        refine TL_pure rfl rfl rfl rfl (op_addW rfl rfl) ?_
        refine TL_pure rfl rfl rfl rfl (op_assign rfl) ?_
        refine TL_nil ?_
        refine T_seq ?_
        refine T_region ?_
        refine TL_pure rfl rfl rfl rfl (op_move rfl) ?_
        refine TL_pure rfl rfl rfl rfl (op_move rfl) ?_
        refine TL_pure rfl rfl rfl rfl (op_indexT el66 rfl rfl hx14 rfl) ?_
        refine TL_pure rfl rfl rfl rfl (op_fieldAddr fa184_1 rfl rfl) ?_
        refine TL_pure rfl rfl rfl rfl (op_load_one ag26 rfl rfl) ?_
        refine TL_pure rfl rfl rfl rfl (op_move rfl) ?_
        obtain ⟨r27, hr27, hm⟩ := bindS hm
        refine TL_callF (ACall.F (F := F) (c_laws_heldInt64S x14.Coeffs (w64 (s0.1 + (1 : Int))) r27 hr27)) Try.call32 rfl rfl rfl rfl rfl ?_
        refine TL_pure rfl rfl rfl rfl (op_assign rfl) ?_
        refine TL_nil ?_
        refine T_seq ?_
        refine T_region ?_
        refine TL_pure rfl rfl rfl rfl (op_move rfl) ?_
        refine TL_pure rfl rfl rfl rfl (op_lss rfl rfl) ?_
        refine TL_nil ?_
        refine T_cond rfl (fun hq => ?_) (fun hq => ?_)
        · replace hm := condT hq hm
          refine T_seq ?_
          refine T_region ?_
          refine TL_pure rfl rfl rfl rfl (op_assign rfl) ?_
          refine TL_nil ?_
          refine T_keepH [4] [] rfl rfl rfl rfl (by rw [hF]; rfl) ?_
          refine T_ret ?_
          obtain rfl := someI hm
          have hn := CtlOK_out hc0
          exact hx0 (.inr (-1 : Int)) hn
        · replace hm := condF hq hm
          refine T_skip ?_
          refine T_region ?_
          refine TL_pure rfl rfl rfl rfl (op_move rfl) ?_
          refine TL_pure rfl rfl rfl rfl (op_addW rfl rfl) ?_
          refine TL_pure rfl rfl rfl rfl (op_assign rfl) ?_
          refine TL_nil ?_
          refine TR_keepH [0, 1, 5] [] rfl rfl rfl rfl (by rw [hF]; rfl) ?_
          obtain rfl := someI hm
          have hn := CtlOK_next hc0
          exact hn _ rfl
    · replace hm := condF hq hm
      refine T_keepH [1] [] rfl rfl rfl rfl (by rw [hF]; rfl) ?_
      refine T_exit ?_
      obtain rfl := someI hm
      have hn := CtlOK_out hc0
      exact hx0 (.inl s0.1) hn
theorem c_laws_heldInstrS (p0 : List Instr) (p1 : Int) (out : Int) (hm : m_laws_heldInstrS p0 p1 = some out) : ACall Try.prog 99 [.sl 2 (List.map a_Instr p0), .int .i64 p1] [] (.int .i64 out) [] := by
  refine ACall.intro Try.func99 rfl Try.ntmps99 rfl (fun F hF => ?_)
  unfold m_laws_heldInstrS at hm
  refine T_seq ?_
  refine T_region ?_
  refine TL_pure rfl rfl rfl rfl (op_assign rfl) ?_
  refine TL_nil ?_
  refine T_seq ?_
  refine T_seq ?_
  refine T_region ?_
  refine TL_pure rfl rfl rfl rfl (op_assign rfl) ?_
  refine TL_nil ?_
  refine T_block ?_
  refine T_keepH [0, 1, 5] [] rfl rfl rfl rfl (by rw [hF]; rfl) ?_
  refine T_loop ?_
  obtain ⟨u0, hl0, hm⟩ := bindS hm
  refine TR_iter2 (m_laws_heldInstrS_L0 p0) (fun (s0 : Int × Int) => ⟨[(0, .sl 2 (List.map a_Instr p0)), (1, .int .i64 s0.1), (5, .int .i64 s0.2)], []⟩) (fun u0 => match u0 with | .inl u0 => .exit 0 | .inr u0 => .ret) (fun u0 => match u0 with | .inl u0 => ⟨[(1, .int .i64 u0)], []⟩ | .inr u0 => ⟨[(4, .int .i64 u0)], []⟩) (fun u0 => m_laws_heldInstrS_A0 u0 = some out) hl0 hm (fun u0 hm => ?_) (fun hx0 s0 c0 hm hc0 => ?_)
  · rcases u0 with u0 | u0
    · unfold m_laws_heldInstrS_A0 at hm
      refine T_seq ?_
      refine T_region ?_
      refine TL_pure rfl rfl rfl rfl (op_move rfl) ?_
      refine TL_pure rfl rfl rfl rfl (op_assign rfl) ?_
      refine TL_nil ?_
      refine T_keepH [4] [] rfl rfl rfl rfl (by rw [hF]; rfl) ?_
      refine T_ret ?_
      obtain rfl := someI hm
      refine ⟨[_], [], ⟨rfl, trivial⟩, ?_, rfl, rfl, rfl, rfl⟩
      rfl
    · unfold m_laws_heldInstrS_A0 at hm
      obtain rfl := someI hm
      refine ⟨[_], [], ⟨rfl, trivial⟩, ?_, rfl, rfl, rfl, rfl⟩
      rfl
  · unfold m_laws_heldInstrS_L0 at hm
    refine T_seq ?_
    refine T_seq ?_
    refine T_region ?_
    refine TL_pure rfl rfl rfl rfl (op_move rfl) ?_
    refine TL_pure rfl rfl rfl rfl (op_move rfl) ?_
    refine TL_pure rfl rfl rfl rfl (op_lenT Try.underlying24 rfl (List.length_map _)) ?_
    refine TL_fact (fun _ _ _ hr => RelP.slLen (i := 7) rfl hr) (fun hlen8 => ?_)
    rw [List.length_map] at hlen8
    refine TL_pure rfl rfl rfl rfl (op_lss rfl rfl) ?_
    refine TL_nil ?_
    refine T_cond rfl (fun hq => ?_) (fun hq => ?_)
    · replace hm := condT hq hm
      refine T_skip ?_
      refine T_seq ?_
      refine T_block ?_
      refine T_seq ?_
      refine T_seq ?_
      refine T_region ?_
      refine TL_pure rfl rfl rfl rfl (op_move rfl) ?_
      refine TL_pure rfl rfl rfl rfl (op_move rfl) ?_
      obtain ⟨x14, hx14, hm⟩ := bindS hm
      refine TL_pure rfl rfl rfl rfl (op_indexT el24 rfl rfl hx14 rfl) ?_
      refine TL_pure rfl rfl rfl rfl (op_fieldAddrC (n := 1) fa40_0 rfl rfl rfl) ?_
      refine TL_pure rfl rfl rfl rfl (op_load_one ag2 rfl rfl) ?_
      refine TL_pure rfl rfl rfl rfl (op_move rfl) ?_
      refine TL_pure rfl rfl rfl rfl (op_neq rfl rfl) ?_
      refine TL_nil ?_
      refine T_cond rfl (fun hq => ?_) (fun hq => ?_)
      · replace hm := condT hq hm
        refine T_seq ?_
        refine T_region ?_
        refine TL_pure rfl rfl rfl rfl (op_assign rfl) ?_
        refine TL_nil ?_
        refine T_keepH [4] [] rfl rfl rfl rfl (by rw [hF]; rfl) ?_
        refine T_ret ?_
        obtain rfl := someI hm
        have hn := CtlOK_out hc0
        exact hx0 (.inr (-1 : Int)) hn
      · replace hm := condF hq hm
        refine T_skip ?_
        refine T_seq ?_
        refine T_region ?_
        refine TL_pure rfl rfl rfl rfl (op_move rfl) ?_
        refine TL_pure rfl rfl rfl rfl (op_addW rfl rfl) ?_
        refine TL_pure rfl rfl rfl rfl (op_assign rfl) ?_
        refine TL_nil ?_
        refine T_seq ?_
        refine T_seq ?_
        refine T_region ?_
        refine TL_pure rfl rfl rfl rfl (op_move rfl) ?_
        refine TL_pure rfl rfl rfl rfl (op_move rfl) ?_
        refine TL_pure rfl rfl rfl rfl (op_indexT el24 rfl rfl hx14 rfl) ?_
        refine TL_pure rfl rfl rfl rfl (op_fieldAddr fa40_1 rfl rfl) ?_
        refine TL_pure rfl rfl rfl rfl (op_load_one ag2 rfl rfl) ?_
        refine TL_pure rfl rfl rfl rfl (op_move rfl) ?_
        refine TL_pure rfl rfl rfl rfl (op_neq rfl rfl) ?_
        refine TL_nil ?_
        refine T_cond rfl (fun hq => ?_) (fun hq => ?_)
        · replace hm := condT hq hm
          refine T_seq ?_
          refine T_region ?_
          refine TL_pure rfl rfl rfl rfl (op_assign rfl) ?_
          refine TL_nil ?_
          refine T_keepH [4] [] rfl rfl rfl rfl (by rw [hF]; rfl) ?_
          refine T_ret ?_
          obtain rfl := someI hm
          have hn := CtlOK_out hc0
          exact hx0 (.inr (-1 : Int)) hn
        · replace hm := condF hq hm
          refine T_skip ?_
          refine T_region ?_
          refine TL_pure rfl rfl rfl rfl (op_move rfl) ?_
          refine TL_pure rfl rfl rfl rfl (op_addW rfl rfl) ?_
          refine TL_pure rfl rfl rfl rfl (op_assign rfl) ?_
          refine TL_nil ?_
          refine T_region ?_
          refine TL_pure rfl rfl rfl rfl (op_move rfl) ?_
          refine TL_pure rfl rfl rfl rfl (op_addW rfl rfl) ?_
          refine TL_pure rfl rfl rfl rfl (op_assign rfl) ?_
          refine TL_nil ?_
          refine TR_keepH [0, 1, 5] [] rfl rfl rfl rfl (by rw [hF]; rfl) ?_
          obtain rfl := someI hm
          have hn := CtlOK_next hc0
          exact hn _ rfl
    · replace hm := condF hq hm
      refine T_keepH [1] [] rfl rfl rfl rfl (by rw [hF]; rfl) ?_
      refine T_exit ?_
      obtain rfl := someI hm
      have hn := CtlOK_out hc0
      exact hx0 (.inl s0.1) hn
theorem c_laws_heldPointS (p0 : List Point) (p1 : Int) (out : Int) (hm : m_laws_heldPointS p0 p1 = some out) : ACall Try.prog 100 [.sl 2 (List.map a_Point p0), .int .i64 p1] [] (.int .i64 out) [] := by
  refine ACall.intro Try.func100 rfl Try.ntmps100 rfl (fun F hF => ?_)
  unfold m_laws_heldPointS at hm
  refine T_seq ?_
  refine T_region ?_
  refine TL_pure rfl rfl rfl rfl (op_assign rfl) ?_
  refine TL_nil ?_
  refine T_seq ?_
  refine T_seq ?_
  refine T_region ?_
  refine TL_pure rfl rfl rfl rfl (op_assign rfl) ?_
  refine TL_nil ?_
  refine T_block ?_
  refine T_keepH [0, 1, 5] [] rfl rfl rfl rfl (by rw [hF]; rfl) ?_
  refine T_loop ?_
  obtain ⟨u0, hl0, hm⟩ := bindS hm
  refine TR_iter2 (m_laws_heldPointS_L0 p0) (fun (s0 : Int × Int) => ⟨[(0, .sl 2 (List.map a_Point p0)), (1, .int .i64 s0.1), (5, .int .i64 s0.2)], []⟩) (fun u0 => match u0 with | .inl u0 => .exit 0 | .inr u0 => .ret) (fun u0 => match u0 with | .inl u0 => ⟨[(1, .int .i64 u0)], []⟩ | .inr u0 => ⟨[(4, .int .i64 u0)], []⟩) (fun u0 => m_laws_heldPointS_A0 u0 = some out) hl0 hm (fun u0 hm => ?_) (fun hx0 s0 c0 hm hc0 => ?_)
  · rcases u0 with u0 | u0
    · unfold m_laws_heldPointS_A0 at hm
      refine T_seq ?_
      refine T_region ?_
      refine TL_pure rfl rfl rfl rfl (op_move rfl) ?_
      refine TL_pure rfl rfl rfl rfl (op_assign rfl) ?_
      refine TL_nil ?_
      refine T_keepH [4] [] rfl rfl rfl rfl (by rw [hF]; rfl) ?_
      refine T_ret ?_
      obtain rfl := someI hm
      refine ⟨[_], [], ⟨rfl, trivial⟩, ?_, rfl, rfl, rfl, rfl⟩
      rfl
    · unfold m_laws_heldPointS_A0 at hm
      obtain rfl := someI hm
      refine ⟨[_], [], ⟨rfl, trivial⟩, ?_, rfl, rfl, rfl, rfl⟩
      rfl
  · unfold m_laws_heldPointS_L0 at hm
    refine T_seq ?_
    refine T_seq ?_
    refine T_region ?_
    refine TL_pure rfl rfl rfl rfl (op_move rfl) ?_
    refine TL_pure rfl rfl rfl rfl (op_move rfl) ?_
    refine TL_pure rfl rfl rfl rfl (op_lenT Try.underlying67 rfl (List.length_map _)) ?_
    refine TL_fact (fun _ _ _ hr => RelP.slLen (i := 7) rfl hr) (fun hlen8 => ?_)
    rw [List.length_map] at hlen8
    refine TL_pure rfl rfl rfl rfl (op_lss rfl rfl) ?_
    refine TL_nil ?_
    refine T_cond rfl (fun hq => ?_) (fun hq => ?_)
    · replace hm := condT hq hm
      refine T_skip ?_
      refine T_seq ?_
      refine T_block ?_
      refine T_seq ?_
      refine T_seq ?_
      refine T_region ?_
      refine TL_pure rfl rfl rfl rfl (op_move rfl) ?_
      refine TL_pure rfl rfl rfl rfl (op_move rfl) ?_
      obtain ⟨x14, hx14, hm⟩ := bindS hm
      refine TL_pure rfl rfl rfl rfl (op_indexT el67 rfl rfl hx14 rfl) ?_
      refine TL_pure rfl rfl rfl rfl (op_fieldAddrC (n := 1) fa81_0 rfl rfl rfl) ?_
      refine TL_pure rfl rfl rfl rfl (op_load_one ag2 rfl rfl) ?_
      refine TL_pure rfl rfl rfl rfl (op_move rfl) ?_
      refine TL_pure rfl rfl rfl rfl (op_neq rfl rfl) ?_
      refine TL_nil ?_
      refine T_cond rfl (fun hq => ?_) (fun hq => ?_)
      · replace hm := condT hq hm
        refine T_seq ?_
        refine T_region ?_
        refine TL_pure rfl rfl rfl rfl (op_assign rfl) ?_
        refine TL_nil ?_
        refine T_keepH [4] [] rfl rfl rfl rfl (by rw [hF]; rfl) ?_
        refine T_ret ?_
        obtain rfl := someI hm
        have hn := CtlOK_out hc0
        exact hx0 (.inr (-1 : Int)) hn
      · replace hm := condF hq hm
        refine T_skip ?_
        refine T_seq ?_
        refine T_region ?_
        refine TL_pure rfl rfl rfl rfl (op_move rfl) ?_
        refine TL_pure rfl rfl rfl rfl (op_addW rfl rfl) ?_
        refine TL_pure rfl rfl rfl rfl (op_assign rfl) ?_
        refine TL_nil ?_
        refine T_seq ?_
        refine T_region ?_
        refine TL_pure rfl rfl rfl rfl (op_move rfl) ?_
        refine TL_pure rfl rfl rfl rfl (op_move rfl) ?_
        refine TL_pure rfl rfl rfl rfl (op_indexT el67 rfl rfl hx14 rfl) ?_
        refine TL_pure rfl rfl rfl rfl (op_fieldAddr fa81_1 rfl rfl) ?_
        refine TL_pure rfl rfl rfl rfl (op_load_one ag66 rfl rfl) ?_
        refine TL_pure rfl rfl rfl rfl (op_move rfl) ?_
        obtain ⟨r27, hr27, hm⟩ := bindS hm
        refine TL_callF (ACall.F (F := F) (c_laws_heldTermS x14.Facts (w64 (s0.1 + (1 : Int))) r27 hr27)) Try.call98 rfl rfl rfl rfl rfl ?_
        refine TL_pure rfl rfl rfl rfl (op_assign rfl) ?_
        refine TL_nil ?_
        refine T_seq ?_
        refine T_region ?_
        refine TL_pure rfl rfl rfl rfl (op_move rfl) ?_
        refine TL_pure rfl rfl rfl rfl (op_lss rfl rfl) ?_
        refine TL_nil ?_
        refine T_cond rfl (fun hq => ?_) (fun hq => ?_)
        · replace hm := condT hq hm
          refine T_seq ?_
          refine T_region ?_
          refine TL_pure rfl rfl rfl rfl (op_assign rfl) ?_
          refine TL_nil ?_
          refine T_keepH [4] [] rfl rfl rfl rfl (by rw [hF]; rfl) ?_
          refine T_ret ?_
          obtain rfl := someI hm
          have hn := CtlOK_out hc0
          exact hx0 (.inr (-1 : Int)) hn
        · replace hm := condF hq hm
          refine T_skip ?_
          refine T_region ?_
          refine TL_pure rfl rfl rfl rfl (op_move rfl) ?_
          refine TL_pure rfl rfl rfl rfl (op_addW rfl rfl) ?_
          refine TL_pure rfl rfl rfl rfl (op_assign rfl) ?_
          refine TL_nil ?_
          refine TR_keepH [0, 1, 5] [] rfl rfl rfl rfl (by rw [hF]; rfl) ?_
          obtain rfl := someI hm
          have hn := CtlOK_next hc0
          exact hn _ rfl
    · replace hm := condF hq hm
      refine T_keepH [1] [] rfl rfl rfl rfl (by rw [hF]; rfl) ?_
      refine T_exit ?_
      obtain rfl := someI hm
      have hn := CtlOK_out hc0
      exact hx0 (.inl s0.1) hn
end Go.Mod
