import Derived.Test.YtkiapbiifhkaaaaRows
import Derived.Test.YtkiapbiifhkaaaaGc
import Derived.Test.YtkiapbiifhkaaaaGd
namespace Go.Mod
open Go Go.AM Go.Proofs
set_option linter.unusedVariables false
set_option linter.unusedSimpArgs false
set_option maxRecDepth 100000
set_option maxHeartbeats 8000000
def a_Instr (x : Instr) : AV := .agg [.int .i64 x.Op, .int .i64 x.Arg]
def aLa_Instr (x : List Instr) : AV := .sl 2 (List.map a_Instr x)
def a_i64 (x : Int) : AV := .int .i64 x
def a_State (x : State) : AV := .agg [.sl 1 (List.map a_i64 x.Vars), .sl 1 (List.map a_i64 x.Cells)]
def aLa_i64 (x : List Int) : AV := .sl 1 (List.map a_i64 x)
theorem ag121 : tyAgg Try.prog 121 = some true := by kernel_rfl
theorem ag2 : tyAgg Try.prog 2 = some false := by kernel_rfl
theorem ag26 : tyAgg Try.prog 26 = some false := by kernel_rfl
theorem ag28 : tyAgg Try.prog 28 = some true := by kernel_rfl
theorem ag35 : tyAgg Try.prog 35 = some true := by kernel_rfl
theorem ag40 : tyAgg Try.prog 40 = some true := by kernel_rfl
theorem ag44 : tyAgg Try.prog 44 = some true := by kernel_rfl
theorem el24 : tyElem Try.prog 24 = some (40, 2) := by kernel_rfl
theorem el26 : tyElem Try.prog 26 = some (2, 1) := by kernel_rfl
theorem el43 : tyElem Try.prog 43 = some (121, 2) := by kernel_rfl
theorem fa107_0 : tyField Try.prog 107 0 = some 0 := by kernel_rfl
theorem fa107_1 : tyField Try.prog 107 1 = some 4 := by kernel_rfl
theorem fa107_2 : tyField Try.prog 107 2 = some 5 := by kernel_rfl
theorem fa107_3 : tyField Try.prog 107 3 = some 6 := by kernel_rfl
theorem fa121_0 : tyField Try.prog 121 0 = some 0 := by kernel_rfl
theorem fa121_1 : tyField Try.prog 121 1 = some 1 := by kernel_rfl
theorem fa28_0 : tyField Try.prog 28 0 = some 0 := by kernel_rfl
theorem fa28_1 : tyField Try.prog 28 1 = some 1 := by kernel_rfl
theorem fa35_0 : tyField Try.prog 35 0 = some 0 := by kernel_rfl
theorem fa35_1 : tyField Try.prog 35 1 = some 2 := by kernel_rfl
theorem fa35_2 : tyField Try.prog 35 2 = some 3 := by kernel_rfl
theorem fa40_0 : tyField Try.prog 40 0 = some 0 := by kernel_rfl
theorem fa40_1 : tyField Try.prog 40 1 = some 1 := by kernel_rfl
theorem fa44_0 : tyField Try.prog 44 0 = some 0 := by kernel_rfl
theorem fa44_1 : tyField Try.prog 44 1 = some 1 := by kernel_rfl
theorem mix : Try.prog.follows .mixedOrders = true := by kernel_rfl
theorem pl107 : tyPlaces Try.prog 107 = some [(0, 4), (4, 1), (5, 1), (6, 1)] := by kernel_rfl
theorem pl28 : tyPlaces Try.prog 28 = some [(0, 1), (1, 1)] := by kernel_rfl
theorem pl35 : tyPlaces Try.prog 35 = some [(0, 2), (2, 1), (3, 1)] := by kernel_rfl
theorem sz121 : tySize Try.prog 121 = some 2 := by kernel_rfl
theorem sz2 : tySize Try.prog 2 = some 1 := by kernel_rfl
theorem sz26 : tySize Try.prog 26 = some 1 := by kernel_rfl
theorem sz28 : tySize Try.prog 28 = some 2 := by kernel_rfl
theorem sz35 : tySize Try.prog 35 = some 4 := by kernel_rfl
theorem sz40 : tySize Try.prog 40 = some 2 := by kernel_rfl
theorem sz44 : tySize Try.prog 44 = some 2 := by kernel_rfl
theorem z107 : tyZero Try.prog 107 = some (.agg #[.slice none 0 0, .slice none 0 0, .slice none 0 0, .int .i64 0, .slice none 0 0, .slice none 0 0, .int .i64 0], 7, 136) := by kernel_rfl
theorem z2 : tyZero Try.prog 2 = some (.int .i64 0, 1, 8) := by kernel_rfl
theorem z28 : tyZero Try.prog 28 = some (.agg #[.slice none 0 0, .slice none 0 0], 2, 48) := by kernel_rfl
theorem z35 : tyZero Try.prog 35 = some (.agg #[.slice none 0 0, .slice none 0 0, .slice none 0 0, .int .i64 0], 4, 80) := by kernel_rfl
theorem z40 : tyZero Try.prog 40 = some (.agg #[.int .i64 0, .int .i64 0], 2, 16) := by kernel_rfl
theorem c_laws_szInstrS (p0 : List Instr) (p1 : Int) (out : Int) (hm : m_laws_szInstrS p0 p1 = some out) : ACall Try.prog 21 [.sl 2 (List.map a_Instr p0), .int .i64 p1] [] (.int .i64 out) [] := by
  refine ACall.intro Try.func21 rfl Try.ntmps21 rfl (fun F hF => ?_)
  unfold m_laws_szInstrS at hm
  refine T_seq ?_
  refine T_region ?_
  refine TL_pure rfl rfl rfl rfl (op_assign rfl) ?_
  refine TL_nil ?_
  refine T_seq ?_
  refine T_region ?_
  refine TL_pure rfl rfl rfl rfl (op_move rfl) ?_
  refine TL_pure rfl rfl rfl rfl (op_move rfl) ?_
  refine TL_pure rfl rfl rfl rfl (op_lenT Try.underlying43 rfl (List.length_map _)) ?_
  refine TL_fact (fun _ _ _ hr => RelP.slLen (i := 6) rfl hr) (fun hlen7 => ?_)
  rw [List.length_map] at hlen7
  refine TL_pure rfl rfl rfl rfl (op_subW rfl rfl) ?_
  refine TL_pure rfl rfl rfl rfl (op_assign rfl) ?_
  refine TL_nil ?_
  refine T_seq ?_
  refine T_seq ?_
  refine T_region ?_
  refine TL_pure rfl rfl rfl rfl (op_move rfl) ?_
  refine TL_pure rfl rfl rfl rfl (op_lss rfl rfl) ?_
  refine TL_nil ?_
  refine T_cond rfl (fun hq => ?_) (fun hq => ?_)
  · replace hm := condT hq hm
    refine T_seq ?_
    refine T_region ?_
    refine TL_pure rfl rfl rfl rfl (op_assign rfl) ?_
    refine TL_nil ?_
    refine T_keepH [4] [] rfl rfl rfl rfl (by rw [hF]; rfl) ?_
    refine T_ret ?_
    obtain rfl := someI hm
    refine ⟨[_], [], ⟨rfl, trivial⟩, ?_, rfl, rfl, rfl, rfl⟩
    rfl
  · replace hm := condF hq hm
    refine T_skip ?_
    refine T_seq ?_
    refine T_region ?_
    refine TL_pure rfl rfl rfl rfl (op_move rfl) ?_
    refine TL_pure rfl rfl rfl rfl (op_assign rfl) ?_
    refine TL_nil ?_
    refine T_keepH [4] [] rfl rfl rfl rfl (by rw [hF]; rfl) ?_
    refine T_ret ?_
    obtain rfl := someI hm
    refine ⟨[_], [], ⟨rfl, trivial⟩, ?_, rfl, rfl, rfl, rfl⟩
    rfl
theorem c_laws_szInt64S (p0 : List Int) (p1 : Int) (out : Int) (hm : m_laws_szInt64S p0 p1 = some out) : ACall Try.prog 73 [.sl 1 (List.map a_i64 p0), .int .i64 p1] [] (.int .i64 out) [] := by
  refine ACall.intro Try.func73 rfl Try.ntmps73 rfl (fun F hF => ?_)
  unfold m_laws_szInt64S at hm
  refine T_seq ?_
  refine T_region ?_
  refine TL_pure rfl rfl rfl rfl (op_assign rfl) ?_
  refine TL_nil ?_
  refine T_seq ?_
  refine T_region ?_
  refine TL_pure rfl rfl rfl rfl (op_move rfl) ?_
  refine TL_pure rfl rfl rfl rfl (op_move rfl) ?_
  refine TL_pure rfl rfl rfl rfl (op_lenT Try.underlying26 rfl (List.length_map _)) ?_
  refine TL_fact (fun _ _ _ hr => RelP.slLen (i := 6) rfl hr) (fun hlen7 => ?_)
  rw [List.length_map] at hlen7
  refine TL_pure rfl rfl rfl rfl (op_subW rfl rfl) ?_
  refine TL_pure rfl rfl rfl rfl (op_assign rfl) ?_
  refine TL_nil ?_
  refine T_seq ?_
  refine T_seq ?_
  refine T_region ?_
  refine TL_pure rfl rfl rfl rfl (op_move rfl) ?_
  refine TL_pure rfl rfl rfl rfl (op_lss rfl rfl) ?_
  refine TL_nil ?_
  refine T_cond rfl (fun hq => ?_) (fun hq => ?_)
  · replace hm := condT hq hm
    refine T_seq ?_
    refine T_region ?_
    refine TL_pure rfl rfl rfl rfl (op_assign rfl) ?_
    refine TL_nil ?_
    refine T_keepH [4] [] rfl rfl rfl rfl (by rw [hF]; rfl) ?_
    refine T_ret ?_
    obtain rfl := someI hm
    refine ⟨[_], [], ⟨rfl, trivial⟩, ?_, rfl, rfl, rfl, rfl⟩
    rfl
  · replace hm := condF hq hm
    refine T_skip ?_
    refine T_seq ?_
    refine T_region ?_
    refine TL_pure rfl rfl rfl rfl (op_move rfl) ?_
    refine TL_pure rfl rfl rfl rfl (op_assign rfl) ?_
    refine TL_nil ?_
    refine T_keepH [4] [] rfl rfl rfl rfl (by rw [hF]; rfl) ?_
    refine T_ret ?_
    obtain rfl := someI hm
    refine ⟨[_], [], ⟨rfl, trivial⟩, ?_, rfl, rfl, rfl, rfl⟩
    rfl
theorem c_laws_szState (p0 : State) (p1 : Int) (out : Int) (hm : m_laws_szState p0 p1 = some out) : ACall Try.prog 22 [.agg [.sl 1 (List.map a_i64 p0.Vars), .sl 1 (List.map a_i64 p0.Cells)], .int .i64 p1] [] (.int .i64 out) [] := by
  refine ACall.intro Try.func22 rfl Try.ntmps22 rfl (fun F hF => ?_)
  unfold m_laws_szState at hm
  refine T_seq ?_
  refine T_region ?_
  refine TL_box 11 rfl rfl rfl rfl rfl rfl rfl ?_
  refine TL_pure rfl rfl rfl rfl (op_assign rfl) ?_
  refine TL_nil ?_
  refine T_seq ?_
  refine T_region ?_
  refine TL_pure rfl rfl rfl rfl (op_fieldAddr fa44_0 rfl rfl) ?_
  refine TL_pure rfl rfl rfl rfl (op_load_one ag26 rfl rfl) ?_
  refine TL_pure rfl rfl rfl rfl (op_move rfl) ?_
  obtain ⟨r8, hr8, hm⟩ := bindS hm
  refine TL_callF (c_laws_szInt64S p0.Vars p1 r8 hr8) Try.call73 rfl rfl rfl rfl rfl ?_
  refine TL_pure rfl rfl rfl rfl (op_assign rfl) ?_
  refine TL_nil ?_
  refine T_seq ?_
  refine T_seq ?_
  refine T_region ?_
  refine TL_pure rfl rfl rfl rfl (op_move rfl) ?_
  refine TL_pure rfl rfl rfl rfl (op_lss rfl rfl) ?_
  refine TL_nil ?_
  refine T_cond rfl (fun hq => ?_) (fun hq => ?_)
  · replace hm := condT hq hm
    refine T_seq ?_
    refine T_region ?_
    refine TL_pure rfl rfl rfl rfl (op_assign rfl) ?_
    refine TL_nil ?_
    refine T_keepH [4] [] rfl rfl rfl rfl (by rw [hF]; rfl) ?_
    refine T_ret ?_
    obtain rfl := someI hm
    refine ⟨[_], [], ⟨rfl, trivial⟩, ?_, rfl, rfl, rfl, rfl⟩
    rfl
  · replace hm := condF hq hm
    refine T_skip ?_
    refine T_seq ?_
    refine T_region ?_
    refine TL_pure rfl rfl rfl rfl (op_fieldAddr fa44_1 rfl rfl) ?_
    refine TL_pure rfl rfl rfl rfl (op_load_one ag26 rfl rfl) ?_
    refine TL_pure rfl rfl rfl rfl (op_move rfl) ?_
    obtain ⟨r14, hr14, hm⟩ := bindS hm
    refine TL_callF (c_laws_szInt64S p0.Cells r8 r14 hr14) Try.call73 rfl rfl rfl rfl rfl ?_
    refine TL_pure rfl rfl rfl rfl (op_assign rfl) ?_
    refine TL_nil ?_
    refine T_seq ?_
    refine T_seq ?_
    refine T_region ?_
    refine TL_pure rfl rfl rfl rfl (op_move rfl) ?_
    refine TL_pure rfl rfl rfl rfl (op_lss rfl rfl) ?_
    refine TL_nil ?_
    refine T_cond rfl (fun hq => ?_) (fun hq => ?_)
    · replace hm := condT hq hm
      refine T_seq ?_
      refine T_region ?_
      refine TL_pure rfl rfl rfl rfl (op_assign rfl) ?_
      refine TL_nil ?_
      refine T_keepH [4] [] rfl rfl rfl rfl (by rw [hF]; rfl) ?_
      refine T_ret ?_
      obtain rfl := someI hm
      refine ⟨[_], [], ⟨rfl, trivial⟩, ?_, rfl, rfl, rfl, rfl⟩
      rfl
    · replace hm := condF hq hm
      refine T_skip ?_
      refine T_seq ?_
      refine T_region ?_
      refine TL_pure rfl rfl rfl rfl (op_move rfl) ?_
      refine TL_pure rfl rfl rfl rfl (op_assign rfl) ?_
      refine TL_nil ?_
      refine T_keepH [4] [] rfl rfl rfl rfl (by rw [hF]; rfl) ?_
      refine T_ret ?_
      obtain rfl := someI hm
      refine ⟨[_], [], ⟨rfl, trivial⟩, ?_, rfl, rfl, rfl, rfl⟩
      rfl
theorem c_laws_toInstr (p0 : Instr) (out : Instr) (hm : m_laws_toInstr p0 = some out) : ACall Try.prog 78 [.agg [.int .i64 p0.Op, .int .i64 p0.Arg]] [] (.agg [.int .i64 out.Op, .int .i64 out.Arg]) [] := by
  refine ACall.intro Try.func78 rfl Try.ntmps78 rfl (fun F hF => ?_)
  unfold m_laws_toInstr at hm
  refine T_seq ?_
  refine T_region ?_
  refine TL_box 11 rfl rfl rfl rfl rfl rfl rfl ?_
  refine TL_alloc 12 z40 rfl rfl rfl rfl rfl rfl rfl ?_
  refine TL_nil ?_
  refine T_seq ?_
  refine T_region ?_
  refine TL_alloc 13 z40 rfl rfl rfl rfl rfl rfl rfl ?_
  refine TL_nil ?_
  refine T_seq ?_
  refine T_region ?_
  refine TL_pure rfl rfl rfl rfl (op_fieldAddr fa121_0 rfl rfl) ?_
  refine TL_pure rfl rfl rfl rfl (op_load_one ag2 rfl rfl) ?_
  refine TL_pure rfl rfl rfl rfl (op_fieldAddr fa40_0 rfl rfl) ?_
  refine TL_store_box sz2 rfl rfl rfl rfl rfl rfl rfl rfl rfl ?_
  refine TL_nil ?_
  refine T_seq ?_
  refine T_region ?_
  refine TL_pure rfl rfl rfl rfl (op_fieldAddr fa121_1 rfl rfl) ?_
  refine TL_pure rfl rfl rfl rfl (op_load_one ag2 rfl rfl) ?_
  refine TL_pure rfl rfl rfl rfl (op_fieldAddr fa40_1 rfl rfl) ?_
  refine TL_store_box sz2 rfl rfl rfl rfl rfl rfl rfl rfl rfl ?_
  refine TL_nil ?_
  refine T_seq ?_
  refine T_region ?_
  refine TL_pure rfl rfl rfl rfl (op_load_agg ag40 sz40 rfl rfl rfl) ?_
  refine TL_store_box sz40 rfl rfl rfl rfl rfl rfl rfl rfl rfl ?_
  refine TL_nil ?_
  refine T_keepH [2] [12] rfl rfl rfl rfl (by rw [hF]; rfl) ?_
  refine T_ret ?_
  obtain rfl := someI hm
  refine ⟨[_], [], ⟨⟨_, _, rfl, rfl, .inr ⟨ag40, _, _, sz40, rfl, rfl⟩⟩, trivial⟩, ?_, rfl, rfl, rfl, rfl⟩
  rfl
theorem c_laws_toInstrS (p0 : List Instr) (out : List Instr) (hm : m_laws_toInstrS p0 = some out) : ACall Try.prog 24 [.sl 2 (List.map a_Instr p0)] [] (.ow 1000) [(1000, .arr ⟨false, true⟩ 2 40 (List.map a_Instr out))] := by
  refine ACall.intro Try.func24 rfl Try.ntmps24 rfl (fun F hF => ?_)
  unfold m_laws_toInstrS at hm
  refine T_seq ?_
  refine T_region ?_
  refine TL_pure rfl rfl rfl rfl (op_assign rfl) ?_
  refine TL_nil ?_
  refine T_seq ?_
  refine T_region ?_
  refine TL_pure rfl rfl rfl rfl (op_move rfl) ?_
  refine TL_pure rfl rfl rfl rfl (op_lenT Try.underlying43 rfl (List.length_map _)) ?_
  refine TL_fact (fun _ _ _ hr => RelP.slLen (i := 5) rfl hr) (fun hlen6 => ?_)
  rw [List.length_map] at hlen6
  obtain ⟨k7, hk7, hm⟩ := bindS hm
  refine TL_make 11 (n := k7) el24 z40 rfl rfl rfl rfl rfl rfl (makeI_spec hk7).1 (makeI_spec hk7).1 (makeI_spec hk7).2 rfl rfl rfl rfl ?_
  refine TL_nils 11 (List.map a_Instr (List.replicate k7 (Instr.mk (0 : Int) (0 : Int)))) (by rw [hF]; rfl) rfl (ElR.rep (z := .agg [.int .i64 (0 : Int), .int .i64 (0 : Int)]) (g := a_Instr) (x := (Instr.mk (0 : Int) (0 : Int))) ⟨⟨rfl, rfl⟩, ⟨⟨rfl, rfl⟩, trivial⟩⟩ k7) rfl ?_
  refine TL_pure rfl rfl rfl rfl (op_assign rfl) ?_
  refine TL_nil ?_
  refine T_seq ?_
  refine T_seq ?_
  refine T_region ?_
  refine TL_pure rfl rfl rfl rfl (op_assign rfl) ?_
  refine TL_nil ?_
  refine T_block ?_
  refine T_keepH [0, 3, 4] [11] rfl rfl rfl rfl (by rw [hF]; rfl) ?_
  refine T_loop ?_
  obtain ⟨u0, hl0, hm⟩ := bindS hm
  refine TR_iter2 (m_laws_toInstrS_L0 p0) (fun (s0 : (List Instr) × Int) => ⟨[(0, .sl 2 (List.map a_Instr p0)), (3, .ow 11), (4, .int .i64 s0.2)], [(11, .arr ⟨false, false⟩ 2 40 (List.map a_Instr s0.1))]⟩) (fun u0 => .exit 0) (fun u0 => ⟨[(3, .ow 11)], [(11, .arr ⟨false, false⟩ 2 40 (List.map a_Instr u0))]⟩) (fun u0 => m_laws_toInstrS_A0 u0 = some out) hl0 hm (fun u0 hm => ?_) (fun hx0 s0 c0 hm hc0 => ?_)
  · unfold m_laws_toInstrS_A0 at hm
    refine T_seq ?_
    refine T_region ?_
    refine TL_pure rfl rfl rfl rfl (op_move rfl) ?_
    refine TL_pure rfl rfl rfl rfl (op_assign rfl) ?_
    refine TL_nil ?_
    refine T_keepH [2] [11] rfl rfl rfl rfl (by rw [hF]; rfl) ?_
    refine T_deepen 11 (p' := false) (List.map a_Instr u0) (by rw [hF]; rfl) rfl (ElR.map (f := a_Instr) (g := a_Instr) (fun _ => ⟨⟨rfl, rfl⟩, ⟨⟨rfl, rfl⟩, trivial⟩⟩) u0) rfl rfl rfl ?_
    refine T_ren [(11, 1000)] rfl rfl rfl (by rw [hF]; rfl) ?_
    refine T_ret ?_
    obtain rfl := someI hm
    refine ⟨[_], [1000], ⟨rfl, trivial⟩, ?_, rfl, rfl, rfl, rfl⟩
    rfl
  · unfold m_laws_toInstrS_L0 at hm
    refine T_seq ?_
    refine T_seq ?_
    refine T_region ?_
    refine TL_pure rfl rfl rfl rfl (op_move rfl) ?_
    refine TL_pure rfl rfl rfl rfl (op_move rfl) ?_
    refine TL_pure rfl rfl rfl rfl (op_lenT Try.underlying43 rfl (List.length_map _)) ?_
    refine TL_pure rfl rfl rfl rfl (op_lss rfl rfl) ?_
    refine TL_nil ?_
    refine T_cond rfl (fun hq => ?_) (fun hq => ?_)
    · replace hm := condT hq hm
      refine T_skip ?_
      refine T_seq ?_
      refine T_block ?_
      refine T_region ?_
      refine TL_pure rfl rfl rfl rfl (op_move rfl) ?_
      refine TL_pure rfl rfl rfl rfl (op_move rfl) ?_
      refine TL_pure rfl rfl rfl rfl (op_move rfl) ?_
      refine TL_pure rfl rfl rfl rfl (op_move rfl) ?_
      obtain ⟨x18, hx18, hm⟩ := bindS hm
      refine TL_pure rfl rfl rfl rfl (op_indexT el43 rfl rfl hx18 rfl) ?_
      refine TL_pure rfl rfl rfl rfl (op_load_agg ag121 sz121 rfl rfl rfl) ?_
      obtain ⟨r20, hr20, hm⟩ := bindS hm
      refine TL_callT (c_laws_toInstr x18 r20 hr20) Try.call78 rfl rfl rfl rfl rfl ?_
      obtain ⟨x21, hx21, hm⟩ := bindS hm
      refine TL_pure rfl rfl rfl rfl (op_indexO el24 rfl rfl rfl hx21) ?_
      refine TL_storeT sz40 rfl rfl ((getI_spec hx21).2) (v' := r20) rfl rfl rfl rfl rfl rfl rfl rfl rfl rfl ?_
      refine TL_nil ?_
      refine T_region ?_
      refine TL_pure rfl rfl rfl rfl (op_move rfl) ?_
      refine TL_pure rfl rfl rfl rfl (op_addW rfl rfl) ?_
      refine TL_pure rfl rfl rfl rfl (op_assign rfl) ?_
      refine TL_nil ?_
      refine TR_keepH [0, 3, 4] [11] rfl rfl rfl rfl (by rw [hF]; rfl) ?_
      obtain rfl := someI hm
      have hn := CtlOK_next hc0
      exact hn _ rfl
    · replace hm := condF hq hm
      refine T_keepH [3] [11] rfl rfl rfl rfl (by rw [hF]; rfl) ?_
      refine T_exit ?_
      obtain rfl := someI hm
      have hn := CtlOK_out hc0
      exact hx0 s0.1 hn
theorem c_laws_toInt64S (p0 : List Int) (out : List Int) (hm : m_laws_toInt64S p0 = some out) : ACall Try.prog 79 [.sl 1 (List.map a_i64 p0)] [] (.ow 1000) [(1000, .arr ⟨false, true⟩ 1 2 (List.map a_i64 out))] := by
  refine ACall.intro Try.func79 rfl Try.ntmps79 rfl (fun F hF => ?_)
  unfold m_laws_toInt64S at hm
  refine T_seq ?_
  refine T_region ?_
  refine TL_pure rfl rfl rfl rfl (op_assign rfl) ?_
  refine TL_nil ?_
  refine T_seq ?_
  refine T_region ?_
  refine TL_pure rfl rfl rfl rfl (op_move rfl) ?_
  refine TL_pure rfl rfl rfl rfl (op_lenT Try.underlying26 rfl (List.length_map _)) ?_
  refine TL_fact (fun _ _ _ hr => RelP.slLen (i := 5) rfl hr) (fun hlen6 => ?_)
  rw [List.length_map] at hlen6
  obtain ⟨k7, hk7, hm⟩ := bindS hm
  refine TL_make 11 (n := k7) el26 z2 rfl rfl rfl rfl rfl rfl (makeI_spec hk7).1 (makeI_spec hk7).1 (makeI_spec hk7).2 rfl rfl rfl rfl ?_
  refine TL_nils 11 (List.map a_i64 (List.replicate k7 (0 : Int))) (by rw [hF]; rfl) rfl (ElR.rep (z := .int .i64 (0 : Int)) (g := a_i64) (x := (0 : Int)) ⟨⟨rfl, rfl⟩, trivial⟩ k7) rfl ?_
  refine TL_pure rfl rfl rfl rfl (op_assign rfl) ?_
  refine TL_nil ?_
  refine T_seq ?_
  refine T_seq ?_
  refine T_region ?_
  refine TL_pure rfl rfl rfl rfl (op_assign rfl) ?_
  refine TL_nil ?_
  refine T_block ?_
  refine T_keepH [0, 3, 4] [11] rfl rfl rfl rfl (by rw [hF]; rfl) ?_
  refine T_loop ?_
  obtain ⟨u0, hl0, hm⟩ := bindS hm
  refine TR_iter2 (m_laws_toInt64S_L0 p0) (fun (s0 : (List Int) × Int) => ⟨[(0, .sl 1 (List.map a_i64 p0)), (3, .ow 11), (4, .int .i64 s0.2)], [(11, .arr ⟨false, false⟩ 1 2 (List.map a_i64 s0.1))]⟩) (fun u0 => .exit 0) (fun u0 => ⟨[(3, .ow 11)], [(11, .arr ⟨false, false⟩ 1 2 (List.map a_i64 u0))]⟩) (fun u0 => m_laws_toInt64S_A0 u0 = some out) hl0 hm (fun u0 hm => ?_) (fun hx0 s0 c0 hm hc0 => ?_)
  · unfold m_laws_toInt64S_A0 at hm
    refine T_seq ?_
    refine T_region ?_
    refine TL_pure rfl rfl rfl rfl (op_move rfl) ?_
    refine TL_pure rfl rfl rfl rfl (op_assign rfl) ?_
    refine TL_nil ?_
    refine T_keepH [2] [11] rfl rfl rfl rfl (by rw [hF]; rfl) ?_
    refine T_deepen 11 (p' := false) (List.map a_i64 u0) (by rw [hF]; rfl) rfl (ElR.map (f := a_i64) (g := a_i64) (fun _ => ⟨⟨rfl, rfl⟩, trivial⟩) u0) rfl rfl rfl ?_
    refine T_ren [(11, 1000)] rfl rfl rfl (by rw [hF]; rfl) ?_
    refine T_ret ?_
    obtain rfl := someI hm
    refine ⟨[_], [1000], ⟨rfl, trivial⟩, ?_, rfl, rfl, rfl, rfl⟩
    rfl
  · unfold m_laws_toInt64S_L0 at hm
    refine T_seq ?_
    refine T_seq ?_
    refine T_region ?_
    refine TL_pure rfl rfl rfl rfl (op_move rfl) ?_
    refine TL_pure rfl rfl rfl rfl (op_move rfl) ?_
    refine TL_pure rfl rfl rfl rfl (op_lenT Try.underlying26 rfl (List.length_map _)) ?_
    refine TL_pure rfl rfl rfl rfl (op_lss rfl rfl) ?_
    refine TL_nil ?_
    refine T_cond rfl (fun hq => ?_) (fun hq => ?_)
    · replace hm := condT hq hm
      refine T_skip ?_
      refine T_seq ?_
      refine T_block ?_
      refine T_region ?_
      refine TL_pure rfl rfl rfl rfl (op_move rfl) ?_
      refine TL_pure rfl rfl rfl rfl (op_move rfl) ?_
      refine TL_pure rfl rfl rfl rfl (op_move rfl) ?_
      refine TL_pure rfl rfl rfl rfl (op_move rfl) ?_
      obtain ⟨x18, hx18, hm⟩ := bindS hm
      refine TL_pure rfl rfl rfl rfl (op_indexT el26 rfl rfl hx18 rfl) ?_
      refine TL_pure rfl rfl rfl rfl (op_load_one ag2 rfl rfl) ?_
      obtain ⟨x20, hx20, hm⟩ := bindS hm
      refine TL_pure rfl rfl rfl rfl (op_indexO el26 rfl rfl rfl hx20) ?_
      refine TL_storeT sz2 rfl rfl ((getI_spec hx20).2) (v' := x18) rfl rfl rfl rfl rfl rfl rfl rfl rfl rfl ?_
      refine TL_nil ?_
      refine T_region ?_
      refine TL_pure rfl rfl rfl rfl (op_move rfl) ?_
      refine TL_pure rfl rfl rfl rfl (op_addW rfl rfl) ?_
      refine TL_pure rfl rfl rfl rfl (op_assign rfl) ?_
      refine TL_nil ?_
      refine TR_keepH [0, 3, 4] [11] rfl rfl rfl rfl (by rw [hF]; rfl) ?_
      obtain rfl := someI hm
      have hn := CtlOK_next hc0
      exact hn _ rfl
    · replace hm := condF hq hm
      refine T_keepH [3] [11] rfl rfl rfl rfl (by rw [hF]; rfl) ?_
      refine T_exit ?_
      obtain rfl := someI hm
      have hn := CtlOK_out hc0
      exact hx0 s0.1 hn
theorem c_laws_toState (p0 : State) (out : State) (hm : m_laws_toState p0 = some out) : ACall Try.prog 25 [.agg [.sl 1 (List.map a_i64 p0.Vars), .sl 1 (List.map a_i64 p0.Cells)]] [] (.agg [.ow 1000, .ow 1001]) [(1000, .arr ⟨false, true⟩ 1 2 (List.map a_i64 out.Vars)), (1001, .arr ⟨false, true⟩ 1 2 (List.map a_i64 out.Cells))] := by
  refine ACall.intro Try.func25 rfl Try.ntmps25 rfl (fun F hF => ?_)
  unfold m_laws_toState at hm
  refine T_seq ?_
  refine T_region ?_
  refine TL_box 11 rfl rfl rfl rfl rfl rfl rfl ?_
  refine TL_alloc 12 z28 rfl rfl rfl rfl rfl rfl rfl ?_
  refine TL_nil ?_
  refine T_seq ?_
  refine T_region ?_
  refine TL_alloc 13 z28 rfl rfl rfl rfl rfl rfl rfl ?_
  refine TL_nil ?_
  refine T_seq ?_
  refine T_region ?_
  refine TL_pure rfl rfl rfl rfl (op_fieldAddr fa44_0 rfl rfl) ?_
  refine TL_pure rfl rfl rfl rfl (op_load_one ag26 rfl rfl) ?_
  obtain ⟨r6, hr6, hm⟩ := bindS hm
  refine TL_callO [(1000, 14)] (c_laws_toInt64S p0.Vars r6 hr6) Try.call79 rfl rfl rfl rfl rfl rfl rfl rfl rfl rfl rfl rfl rfl ?_
  refine TL_pure rfl rfl rfl rfl (op_fieldAddr fa28_0 rfl rfl) ?_
  refine TL_store_box sz26 rfl rfl rfl rfl rfl rfl rfl rfl rfl ?_
  refine TL_nil ?_
  refine T_seq ?_
  refine T_region ?_
  refine TL_pure rfl rfl rfl rfl (op_fieldAddr fa44_1 rfl rfl) ?_
  refine TL_pure rfl rfl rfl rfl (op_load_one ag26 rfl rfl) ?_
  obtain ⟨r10, hr10, hm⟩ := bindS hm
  refine TL_callO [(1000, 15)] (c_laws_toInt64S p0.Cells r10 hr10) Try.call79 rfl rfl rfl rfl rfl rfl rfl rfl rfl rfl rfl rfl rfl ?_
  refine TL_pure rfl rfl rfl rfl (op_fieldAddr fa28_1 rfl rfl) ?_
  refine TL_store_box sz26 rfl rfl rfl rfl rfl rfl rfl rfl rfl ?_
  refine TL_nil ?_
  refine T_seq ?_
  refine T_region ?_
  refine TL_pure rfl rfl rfl rfl (op_load_agg ag28 sz28 rfl rfl rfl) ?_
  refine TL_store_box sz28 rfl rfl rfl rfl rfl rfl rfl rfl rfl ?_
  refine TL_nil ?_
  refine T_keepH [2] [12, 14, 15] rfl rfl rfl rfl (by rw [hF]; rfl) ?_
  refine T_ren [(12, 12), (14, 1000), (15, 1001)] rfl rfl rfl (by rw [hF]; rfl) ?_
  refine T_ret ?_
  obtain rfl := someI hm
  refine ⟨[_], [1000, 1001], ⟨⟨_, _, rfl, rfl, .inr ⟨ag28, _, _, sz28, rfl, rfl⟩⟩, trivial⟩, ?_, rfl, rfl, rfl, rfl⟩
  rfl
theorem c_spec_l00In (p0 : Int) (p1 : Int) (p2 : Int) (out : Bool) (hm : m_spec_l00In p0 p1 p2 = some out) : ACall Try.prog 108 [.int .i64 p0, .int .i64 p1, .int .i64 p2] [] (.bool out) [] := by
  refine ACall.intro Try.func108 rfl Try.ntmps108 rfl (fun F hF => ?_)
  unfold m_spec_l00In at hm
  refine T_seq ?_
  refine T_region ?_
  refine TL_pure rfl rfl rfl rfl (op_assign rfl) ?_
  refine TL_nil ?_
  refine T_seq ?_
  refine T_region ?_
  refine TL_pure rfl rfl rfl rfl (op_move rfl) ?_
  refine TL_pure rfl rfl rfl rfl (op_move rfl) ?_
  refine TL_pure rfl rfl rfl rfl (op_geq rfl rfl) ?_
  refine TL_pure rfl rfl rfl rfl (op_move rfl) ?_
  refine TL_join 4 (fun _ : Unit => ⟨[(14, .bool ((decide (p1 ≤ p0)) && (decide (p0 ≤ p2))))], []⟩) (fun _ => True) (fun _ _ => ?_) (fun hjj => ?_)
  · refine TL_pure rfl rfl rfl rfl (op_assign rfl) ?_
    refine TL_nil ?_
    refine T_keepH [6] [] rfl rfl rfl rfl (by rw [hF]; rfl) ?_
    refine T_ret ?_
    obtain rfl := someI hm
    refine ⟨[_], [], ⟨rfl, trivial⟩, ?_, rfl, rfl, rfl, rfl⟩
    rfl
  · refine TL_split 10 rfl rfl rfl (fun hq => ?_) (fun hq => ?_)
    · refine TL_want rfl rfl ?_
      refine TL_pure rfl rfl rfl rfl (op_move rfl) ?_
      refine TL_want rfl rfl ?_
      refine TL_pure rfl rfl rfl rfl (op_move rfl) ?_
      refine TL_want rfl rfl ?_
      refine TL_pure rfl rfl rfl rfl (op_leq rfl rfl) ?_
      refine TL_pure rfl rfl rfl rfl (op_pick_true rfl rfl) ?_
      refine TL_keepH [14] [] rfl rfl rfl rfl (by rw [hF]; rfl) ?_
      exact TL_cast _ (by rw [hq]; rfl) (hjj () trivial)
    · refine TL_pass rfl rfl rfl rfl rfl rfl rfl ?_
      refine TL_pass rfl rfl rfl rfl rfl rfl rfl ?_
      refine TL_pass rfl rfl rfl rfl rfl rfl rfl ?_
      refine TL_pure rfl rfl rfl rfl (op_pick_false rfl rfl) ?_
      refine TL_keepH [14] [] rfl rfl rfl rfl (by rw [hF]; rfl) ?_
      exact TL_cast _ (by rw [hq]; rfl) (hjj () trivial)
theorem c_spec_l02Number (p0 : Int) (out : Bool) (hm : m_spec_l02Number p0 = some out) : ACall Try.prog 175 [.int .i64 p0] [] (.bool out) [] := by
  refine ACall.intro Try.func175 rfl Try.ntmps175 rfl (fun F hF => ?_)
  unfold m_spec_l02Number at hm
  refine T_seq ?_
  refine T_region ?_
  refine TL_pure rfl rfl rfl rfl (op_assign rfl) ?_
  refine TL_nil ?_
  refine T_seq ?_
  refine T_region ?_
  refine TL_pure rfl rfl rfl rfl (op_move rfl) ?_
  obtain ⟨r4, hr4, hm⟩ := bindS hm
  refine TL_callF (c_spec_l00In p0 (-1000000 : Int) (1000000 : Int) r4 hr4) Try.call108 rfl rfl rfl rfl rfl ?_
  refine TL_pure rfl rfl rfl rfl (op_assign rfl) ?_
  refine TL_nil ?_
  refine T_keepH [2] [] rfl rfl rfl rfl (by rw [hF]; rfl) ?_
  refine T_ret ?_
  obtain rfl := someI hm
  refine ⟨[_], [], ⟨rfl, trivial⟩, ?_, rfl, rfl, rfl, rfl⟩
  rfl
theorem c_spec_l07Instr (p0 : Instr) (out : Bool) (hm : m_spec_l07Instr p0 = some out) : ACall Try.prog 133 [.agg [.int .i64 p0.Op, .int .i64 p0.Arg]] [] (.bool out) [] := by
  refine ACall.intro Try.func133 rfl Try.ntmps133 rfl (fun F hF => ?_)
  unfold m_spec_l07Instr at hm
  refine T_seq ?_
  refine T_region ?_
  refine TL_box 11 rfl rfl rfl rfl rfl rfl rfl ?_
  refine TL_pure rfl rfl rfl rfl (op_assign rfl) ?_
  refine TL_nil ?_
  refine T_seq ?_
  refine T_seq ?_
  refine T_region ?_
  refine TL_pure rfl rfl rfl rfl (op_fieldAddr fa40_0 rfl rfl) ?_
  refine TL_pure rfl rfl rfl rfl (op_load_one ag2 rfl rfl) ?_
  refine TL_nil ?_
  refine T_block ?_
  refine T_join (fun (j0 : Bool) => ⟨[(1, .ptr 11 0 0), (4, .int .i64 p0.Op), (5, .bool j0)], [(11, .box [.int .i64 p0.Op, .int .i64 p0.Arg])]⟩) (fun j0 => m_spec_l07Instr_J0 p0 j0 = some out) (fun j0 hm => ?_) (fun hj0 => ?_)
  · unfold m_spec_l07Instr_J0 at hm
    refine T_cond rfl (fun hq => ?_) (fun hq => ?_)
    · replace hm := condT hq hm
      refine T_seq ?_
      refine T_region ?_
      refine TL_pure rfl rfl rfl rfl (op_fieldAddr fa40_1 rfl rfl) ?_
      refine TL_pure rfl rfl rfl rfl (op_load_one ag2 rfl rfl) ?_
      obtain ⟨r10, hr10, hm⟩ := bindS hm
      refine TL_callF (c_spec_l02Number p0.Arg r10 hr10) Try.call175 rfl rfl rfl rfl rfl ?_
      refine TL_pure rfl rfl rfl rfl (op_assign rfl) ?_
      refine TL_nil ?_
      refine T_keepH [2] [] rfl rfl rfl rfl (by rw [hF]; rfl) ?_
      refine T_ret ?_
      obtain rfl := someI hm
      refine ⟨[_], [], ⟨rfl, trivial⟩, ?_, rfl, rfl, rfl, rfl⟩
      rfl
    · replace hm := condF hq hm
      refine T_join (fun (j1 : Bool) => ⟨[(1, .ptr 11 0 0), (4, .int .i64 p0.Op), (11, .bool j1)], [(11, .box [.int .i64 p0.Op, .int .i64 p0.Arg])]⟩) (fun j1 => m_spec_l07Instr_J1 p0 j1 = some out) (fun j1 hm => ?_) (fun hj1 => ?_)
      · unfold m_spec_l07Instr_J1 at hm
        refine T_cond rfl (fun hq => ?_) (fun hq => ?_)
        · replace hm := condT hq hm
          refine T_seq ?_
          refine T_region ?_
          refine TL_pure rfl rfl rfl rfl (op_fieldAddr fa40_1 rfl rfl) ?_
          refine TL_pure rfl rfl rfl rfl (op_load_one ag2 rfl rfl) ?_
          obtain ⟨r16, hr16, hm⟩ := bindS hm
          refine TL_callF (c_spec_l00In p0.Arg (0 : Int) (3 : Int) r16 hr16) Try.call108 rfl rfl rfl rfl rfl ?_
          refine TL_pure rfl rfl rfl rfl (op_assign rfl) ?_
          refine TL_nil ?_
          refine T_keepH [2] [] rfl rfl rfl rfl (by rw [hF]; rfl) ?_
          refine T_ret ?_
          obtain rfl := someI hm
          refine ⟨[_], [], ⟨rfl, trivial⟩, ?_, rfl, rfl, rfl, rfl⟩
          rfl
        · replace hm := condF hq hm
          refine T_join (fun (j2 : Bool) => ⟨[(1, .ptr 11 0 0), (4, .int .i64 p0.Op), (17, .bool j2)], [(11, .box [.int .i64 p0.Op, .int .i64 p0.Arg])]⟩) (fun j2 => m_spec_l07Instr_J2 p0 j2 = some out) (fun j2 hm => ?_) (fun hj2 => ?_)
          · unfold m_spec_l07Instr_J2 at hm
            refine T_cond rfl (fun hq => ?_) (fun hq => ?_)
            · replace hm := condT hq hm
              refine T_seq ?_
              refine T_region ?_
              refine TL_pure rfl rfl rfl rfl (op_fieldAddr fa40_1 rfl rfl) ?_
              refine TL_pure rfl rfl rfl rfl (op_load_one ag2 rfl rfl) ?_
              obtain ⟨r22, hr22, hm⟩ := bindS hm
              refine TL_callF (c_spec_l00In p0.Arg (0 : Int) (79 : Int) r22 hr22) Try.call108 rfl rfl rfl rfl rfl ?_
              refine TL_pure rfl rfl rfl rfl (op_assign rfl) ?_
              refine TL_nil ?_
              refine T_keepH [2] [] rfl rfl rfl rfl (by rw [hF]; rfl) ?_
              refine T_ret ?_
              obtain rfl := someI hm
              refine ⟨[_], [], ⟨rfl, trivial⟩, ?_, rfl, rfl, rfl, rfl⟩
              rfl
            · replace hm := condF hq hm
              refine T_seq ?_
              refine T_region ?_
              refine TL_pure rfl rfl rfl rfl (op_eql rfl rfl) ?_
              refine TL_pure rfl rfl rfl rfl (op_assign rfl) ?_
              refine TL_nil ?_
              refine T_cond rfl (fun hq => ?_) (fun hq => ?_)
              · replace hm := condT hq hm
                refine T_seq ?_
                refine T_region ?_
                refine TL_pure rfl rfl rfl rfl (op_fieldAddr fa40_1 rfl rfl) ?_
                refine TL_pure rfl rfl rfl rfl (op_load_one ag2 rfl rfl) ?_
                obtain ⟨r27, hr27, hm⟩ := bindS hm
                refine TL_callF (c_spec_l00In p0.Arg (0 : Int) (3 : Int) r27 hr27) Try.call108 rfl rfl rfl rfl rfl ?_
                refine TL_pure rfl rfl rfl rfl (op_assign rfl) ?_
                refine TL_nil ?_
                refine T_keepH [2] [] rfl rfl rfl rfl (by rw [hF]; rfl) ?_
                refine T_ret ?_
                obtain rfl := someI hm
                refine ⟨[_], [], ⟨rfl, trivial⟩, ?_, rfl, rfl, rfl, rfl⟩
                rfl
              · replace hm := condF hq hm
                refine T_join (fun (j3 : Bool) => ⟨[(1, .ptr 11 0 0), (28, .bool j3)], [(11, .box [.int .i64 p0.Op, .int .i64 p0.Arg])]⟩) (fun j3 => m_spec_l07Instr_J3 p0 j3 = some out) (fun j3 hm => ?_) (fun hj3 => ?_)
                · unfold m_spec_l07Instr_J3 at hm
                  refine T_cond rfl (fun hq => ?_) (fun hq => ?_)
                  · replace hm := condT hq hm
                    refine T_seq ?_
                    refine T_region ?_
                    refine TL_pure rfl rfl rfl rfl (op_fieldAddr fa40_1 rfl rfl) ?_
                    refine TL_pure rfl rfl rfl rfl (op_load_one ag2 rfl rfl) ?_
                    refine TL_pure rfl rfl rfl rfl (op_eql rfl rfl) ?_
                    refine TL_pure rfl rfl rfl rfl (op_assign rfl) ?_
                    refine TL_nil ?_
                    refine T_keepH [2] [] rfl rfl rfl rfl (by rw [hF]; rfl) ?_
                    refine T_ret ?_
                    obtain rfl := someI hm
                    refine ⟨[_], [], ⟨rfl, trivial⟩, ?_, rfl, rfl, rfl, rfl⟩
                    rfl
                  · replace hm := condF hq hm
                    refine T_skip ?_
                    refine T_seq ?_
                    refine T_region ?_
                    refine TL_pure rfl rfl rfl rfl (op_assign rfl) ?_
                    refine TL_nil ?_
                    refine T_keepH [2] [] rfl rfl rfl rfl (by rw [hF]; rfl) ?_
                    refine T_ret ?_
                    obtain rfl := someI hm
                    refine ⟨[_], [], ⟨rfl, trivial⟩, ?_, rfl, rfl, rfl, rfl⟩
                    rfl
                · refine T_seq ?_
                  refine T_region ?_
                  refine TL_pure rfl rfl rfl rfl (op_eql rfl rfl) ?_
                  refine TL_pure rfl rfl rfl rfl (op_assign rfl) ?_
                  refine TL_nil ?_
                  refine T_cond rfl (fun hq => ?_) (fun hq => ?_)
                  · replace hm := condT hq hm
                    refine T_skip ?_
                    refine T_keepH [1, 28] [11] rfl rfl rfl rfl (by rw [hF]; rfl) ?_
                    exact hj3 (decide (p0.Op = (3 : Int))) hm
                  · replace hm := condF hq hm
                    refine T_seq ?_
                    refine T_region ?_
                    refine TL_pure rfl rfl rfl rfl (op_eql rfl rfl) ?_
                    refine TL_pure rfl rfl rfl rfl (op_assign rfl) ?_
                    refine TL_nil ?_
                    refine T_cond rfl (fun hq => ?_) (fun hq => ?_)
                    · replace hm := condT hq hm
                      refine T_skip ?_
                      refine T_keepH [1, 28] [11] rfl rfl rfl rfl (by rw [hF]; rfl) ?_
                      exact hj3 (decide (p0.Op = (7 : Int))) hm
                    · replace hm := condF hq hm
                      refine T_seq ?_
                      refine T_region ?_
                      refine TL_pure rfl rfl rfl rfl (op_eql rfl rfl) ?_
                      refine TL_pure rfl rfl rfl rfl (op_assign rfl) ?_
                      refine TL_nil ?_
                      refine T_cond rfl (fun hq => ?_) (fun hq => ?_)
                      · replace hm := condT hq hm
                        refine T_skip ?_
                        refine T_keepH [1, 28] [11] rfl rfl rfl rfl (by rw [hF]; rfl) ?_
                        exact hj3 (decide (p0.Op = (8 : Int))) hm
                      · replace hm := condF hq hm
                        refine T_seq ?_
                        refine T_region ?_
                        refine TL_pure rfl rfl rfl rfl (op_eql rfl rfl) ?_
                        refine TL_pure rfl rfl rfl rfl (op_assign rfl) ?_
                        refine TL_nil ?_
                        refine T_cond rfl (fun hq => ?_) (fun hq => ?_)
                        · replace hm := condT hq hm
                          refine T_skip ?_
                          refine T_keepH [1, 28] [11] rfl rfl rfl rfl (by rw [hF]; rfl) ?_
                          exact hj3 (decide (p0.Op = (10 : Int))) hm
                        · replace hm := condF hq hm
                          refine T_region ?_
                          refine TL_pure rfl rfl rfl rfl (op_eql rfl rfl) ?_
                          refine TL_pure rfl rfl rfl rfl (op_assign rfl) ?_
                          refine TL_nil ?_
                          refine T_keepH [1, 28] [11] rfl rfl rfl rfl (by rw [hF]; rfl) ?_
                          exact hj3 (decide (p0.Op = (11 : Int))) hm
          · refine T_seq ?_
            refine T_region ?_
            refine TL_pure rfl rfl rfl rfl (op_eql rfl rfl) ?_
            refine TL_pure rfl rfl rfl rfl (op_assign rfl) ?_
            refine TL_nil ?_
            refine T_cond rfl (fun hq => ?_) (fun hq => ?_)
            · replace hm := condT hq hm
              refine T_skip ?_
              refine T_keepH [1, 4, 17] [11] rfl rfl rfl rfl (by rw [hF]; rfl) ?_
              exact hj2 (decide (p0.Op = (5 : Int))) hm
            · replace hm := condF hq hm
              refine T_region ?_
              refine TL_pure rfl rfl rfl rfl (op_eql rfl rfl) ?_
              refine TL_pure rfl rfl rfl rfl (op_assign rfl) ?_
              refine TL_nil ?_
              refine T_keepH [1, 4, 17] [11] rfl rfl rfl rfl (by rw [hF]; rfl) ?_
              exact hj2 (decide (p0.Op = (6 : Int))) hm
      · refine T_seq ?_
        refine T_region ?_
        refine TL_pure rfl rfl rfl rfl (op_eql rfl rfl) ?_
        refine TL_pure rfl rfl rfl rfl (op_assign rfl) ?_
        refine TL_nil ?_
        refine T_cond rfl (fun hq => ?_) (fun hq => ?_)
        · replace hm := condT hq hm
          refine T_skip ?_
          refine T_keepH [1, 4, 11] [11] rfl rfl rfl rfl (by rw [hF]; rfl) ?_
          exact hj1 (decide (p0.Op = (1 : Int))) hm
        · replace hm := condF hq hm
          refine T_region ?_
          refine TL_pure rfl rfl rfl rfl (op_eql rfl rfl) ?_
          refine TL_pure rfl rfl rfl rfl (op_assign rfl) ?_
          refine TL_nil ?_
          refine T_keepH [1, 4, 11] [11] rfl rfl rfl rfl (by rw [hF]; rfl) ?_
          exact hj1 (decide (p0.Op = (2 : Int))) hm
  · refine T_seq ?_
    refine T_region ?_
    refine TL_pure rfl rfl rfl rfl (op_eql rfl rfl) ?_
    refine TL_pure rfl rfl rfl rfl (op_assign rfl) ?_
    refine TL_nil ?_
    refine T_cond rfl (fun hq => ?_) (fun hq => ?_)
    · replace hm := condT hq hm
      refine T_skip ?_
      refine T_keepH [1, 4, 5] [11] rfl rfl rfl rfl (by rw [hF]; rfl) ?_
      exact hj0 (decide (p0.Op = (0 : Int))) hm
    · replace hm := condF hq hm
      refine T_region ?_
      refine TL_pure rfl rfl rfl rfl (op_eql rfl rfl) ?_
      refine TL_pure rfl rfl rfl rfl (op_assign rfl) ?_
      refine TL_nil ?_
      refine T_keepH [1, 4, 5] [11] rfl rfl rfl rfl (by rw [hF]; rfl) ?_
      exact hj0 (decide (p0.Op = (4 : Int))) hm
theorem c_spec_l07Is (p0 : List Instr) (out : Bool) (hm : m_spec_l07Is p0 = some out) : ACall Try.prog 74 [.sl 2 (List.map a_Instr p0)] [] (.bool out) [] := by
  refine ACall.intro Try.func74 rfl Try.ntmps74 rfl (fun F hF => ?_)
  unfold m_spec_l07Is at hm
  refine T_seq ?_
  refine T_region ?_
  refine TL_pure rfl rfl rfl rfl (op_assign rfl) ?_
  refine TL_nil ?_
  refine T_seq ?_
  refine T_seq ?_
  refine T_region ?_
  refine TL_pure rfl rfl rfl rfl (op_assign rfl) ?_
  refine TL_nil ?_
  refine T_block ?_
  refine T_keepH [0, 3] [] rfl rfl rfl rfl (by rw [hF]; rfl) ?_
  refine T_loop ?_
  obtain ⟨u0, hl0, hm⟩ := bindS hm
  refine TR_iter2 (m_spec_l07Is_L0 p0) (fun (s0 : Int) => ⟨[(0, .sl 2 (List.map a_Instr p0)), (3, .int .i64 s0)], []⟩) (fun u0 => match u0 with | .inl u0 => .exit 0 | .inr u0 => .ret) (fun u0 => match u0 with | .inl u0 => ⟨[(0, .sl 2 (List.map a_Instr p0))], []⟩ | .inr u0 => ⟨[(2, .bool u0)], []⟩) (fun u0 => m_spec_l07Is_A0 p0 u0 = some out) hl0 hm (fun u0 hm => ?_) (fun hx0 s0 c0 hm hc0 => ?_)
  · rcases u0 with u0 | u0
    · unfold m_spec_l07Is_A0 at hm
      refine T_seq ?_
      refine T_region ?_
      refine TL_pure rfl rfl rfl rfl (op_move rfl) ?_
      refine TL_pure rfl rfl rfl rfl (op_lenT Try.underlying24 rfl (List.length_map _)) ?_
      refine TL_fact (fun _ _ _ hr => RelP.slLen (i := 16) rfl hr) (fun hlen17 => ?_)
      rw [List.length_map] at hlen17
      obtain ⟨r18, hr18, hm⟩ := bindS hm
      refine TL_callF (c_spec_l00In (p0.length : Int) (1 : Int) (80 : Int) r18 hr18) Try.call108 rfl rfl rfl rfl rfl ?_
      refine TL_pure rfl rfl rfl rfl (op_assign rfl) ?_
      refine TL_nil ?_
      refine T_keepH [2] [] rfl rfl rfl rfl (by rw [hF]; rfl) ?_
      refine T_ret ?_
      obtain rfl := someI hm
      refine ⟨[_], [], ⟨rfl, trivial⟩, ?_, rfl, rfl, rfl, rfl⟩
      rfl
    · unfold m_spec_l07Is_A0 at hm
      obtain rfl := someI hm
      refine ⟨[_], [], ⟨rfl, trivial⟩, ?_, rfl, rfl, rfl, rfl⟩
      rfl
  · unfold m_spec_l07Is_L0 at hm
    refine T_seq ?_
    refine T_seq ?_
    refine T_region ?_
    refine TL_pure rfl rfl rfl rfl (op_move rfl) ?_
    refine TL_pure rfl rfl rfl rfl (op_move rfl) ?_
    refine TL_pure rfl rfl rfl rfl (op_lenT Try.underlying24 rfl (List.length_map _)) ?_
    refine TL_fact (fun _ _ _ hr => RelP.slLen (i := 5) rfl hr) (fun hlen6 => ?_)
    rw [List.length_map] at hlen6
    refine TL_pure rfl rfl rfl rfl (op_lss rfl rfl) ?_
    refine TL_nil ?_
    refine T_cond rfl (fun hq => ?_) (fun hq => ?_)
    · replace hm := condT hq hm
      refine T_skip ?_
      refine T_seq ?_
      refine T_block ?_
      refine T_seq ?_
      refine T_region ?_
      refine TL_pure rfl rfl rfl rfl (op_move rfl) ?_
      refine TL_pure rfl rfl rfl rfl (op_move rfl) ?_
      obtain ⟨x12, hx12, hm⟩ := bindS hm
      refine TL_pure rfl rfl rfl rfl (op_indexT el24 rfl rfl hx12 rfl) ?_
      refine TL_pure rfl rfl rfl rfl (op_load_agg ag40 sz40 rfl rfl rfl) ?_
      obtain ⟨r14, hr14, hm⟩ := bindS hm
      refine TL_callF (c_spec_l07Instr x12 r14 hr14) Try.call133 rfl rfl rfl rfl rfl ?_
      refine TL_pure rfl rfl rfl rfl (op_not rfl) ?_
      refine TL_nil ?_
      refine T_cond rfl (fun hq => ?_) (fun hq => ?_)
      · replace hm := condT hq hm
        refine T_seq ?_
        refine T_region ?_
        refine TL_pure rfl rfl rfl rfl (op_assign rfl) ?_
        refine TL_nil ?_
        refine T_keepH [2] [] rfl rfl rfl rfl (by rw [hF]; rfl) ?_
        refine T_ret ?_
        obtain rfl := someI hm
        have hn := CtlOK_out hc0
        exact hx0 (.inr false) hn
      · replace hm := condF hq hm
        refine T_skip ?_
        refine T_region ?_
        refine TL_pure rfl rfl rfl rfl (op_move rfl) ?_
        refine TL_pure rfl rfl rfl rfl (op_addW rfl rfl) ?_
        refine TL_pure rfl rfl rfl rfl (op_assign rfl) ?_
        refine TL_nil ?_
        refine TR_keepH [0, 3] [] rfl rfl rfl rfl (by rw [hF]; rfl) ?_
        obtain rfl := someI hm
        have hn := CtlOK_next hc0
        exact hn _ rfl
    · replace hm := condF hq hm
      refine T_keepH [0] [] rfl rfl rfl rfl (by rw [hF]; rfl) ?_
      refine T_exit ?_
      obtain rfl := someI hm
      have hn := CtlOK_out hc0
      exact hx0 (.inl ()) hn
theorem c_spec_l03Numbers (p0 : List Int) (p1 : Int) (out : Bool) (hm : m_spec_l03Numbers p0 p1 = some out) : ACall Try.prog 134 [.sl 1 (List.map a_i64 p0), .int .i64 p1] [] (.bool out) [] := by
  refine ACall.intro Try.func134 rfl Try.ntmps134 rfl (fun F hF => ?_)
  unfold m_spec_l03Numbers at hm
  refine T_seq ?_
  refine T_region ?_
  refine TL_pure rfl rfl rfl rfl (op_assign rfl) ?_
  refine TL_nil ?_
  refine T_seq ?_
  refine T_seq ?_
  refine T_region ?_
  refine TL_pure rfl rfl rfl rfl (op_assign rfl) ?_
  refine TL_nil ?_
  refine T_block ?_
  refine T_keepH [0, 1, 5] [] rfl rfl rfl rfl (by rw [hF]; rfl) ?_
  refine T_loop ?_
  obtain ⟨u0, hl0, hm⟩ := bindS hm
  refine TR_iter2 (m_spec_l03Numbers_L0 p0) (fun (s0 : Int) => ⟨[(0, .sl 1 (List.map a_i64 p0)), (1, .int .i64 p1), (5, .int .i64 s0)], []⟩) (fun u0 => match u0 with | .inl u0 => .exit 0 | .inr u0 => .ret) (fun u0 => match u0 with | .inl u0 => ⟨[(0, .sl 1 (List.map a_i64 p0)), (1, .int .i64 p1)], []⟩ | .inr u0 => ⟨[(4, .bool u0)], []⟩) (fun u0 => m_spec_l03Numbers_A0 p0 p1 u0 = some out) hl0 hm (fun u0 hm => ?_) (fun hx0 s0 c0 hm hc0 => ?_)
  · rcases u0 with u0 | u0
    · unfold m_spec_l03Numbers_A0 at hm
      refine T_seq ?_
      refine T_region ?_
      refine TL_pure rfl rfl rfl rfl (op_move rfl) ?_
      refine TL_pure rfl rfl rfl rfl (op_lenT Try.underlying26 rfl (List.length_map _)) ?_
      refine TL_fact (fun _ _ _ hr => RelP.slLen (i := 18) rfl hr) (fun hlen19 => ?_)
      rw [List.length_map] at hlen19
      refine TL_pure rfl rfl rfl rfl (op_move rfl) ?_
      refine TL_pure rfl rfl rfl rfl (op_eql rfl rfl) ?_
      refine TL_pure rfl rfl rfl rfl (op_assign rfl) ?_
      refine TL_nil ?_
      refine T_keepH [4] [] rfl rfl rfl rfl (by rw [hF]; rfl) ?_
      refine T_ret ?_
      obtain rfl := someI hm
      refine ⟨[_], [], ⟨rfl, trivial⟩, ?_, rfl, rfl, rfl, rfl⟩
      rfl
    · unfold m_spec_l03Numbers_A0 at hm
      obtain rfl := someI hm
      refine ⟨[_], [], ⟨rfl, trivial⟩, ?_, rfl, rfl, rfl, rfl⟩
      rfl
  · unfold m_spec_l03Numbers_L0 at hm
    refine T_seq ?_
    refine T_seq ?_
    refine T_region ?_
    refine TL_pure rfl rfl rfl rfl (op_move rfl) ?_
    refine TL_pure rfl rfl rfl rfl (op_move rfl) ?_
    refine TL_pure rfl rfl rfl rfl (op_lenT Try.underlying26 rfl (List.length_map _)) ?_
    refine TL_fact (fun _ _ _ hr => RelP.slLen (i := 7) rfl hr) (fun hlen8 => ?_)
    rw [List.length_map] at hlen8
    refine TL_pure rfl rfl rfl rfl (op_lss rfl rfl) ?_
    refine TL_nil ?_
    refine T_cond rfl (fun hq => ?_) (fun hq => ?_)
    · replace hm := condT hq hm
      refine T_skip ?_
      refine T_seq ?_
      refine T_block ?_
      refine T_seq ?_
      refine T_region ?_
      refine TL_pure rfl rfl rfl rfl (op_move rfl) ?_
      refine TL_pure rfl rfl rfl rfl (op_move rfl) ?_
      obtain ⟨x14, hx14, hm⟩ := bindS hm
      refine TL_pure rfl rfl rfl rfl (op_indexT el26 rfl rfl hx14 rfl) ?_
      refine TL_pure rfl rfl rfl rfl (op_load_one ag2 rfl rfl) ?_
      obtain ⟨r16, hr16, hm⟩ := bindS hm
      refine TL_callF (c_spec_l00In x14 (-1000000000 : Int) (1000000000 : Int) r16 hr16) Try.call108 rfl rfl rfl rfl rfl ?_
      refine TL_pure rfl rfl rfl rfl (op_not rfl) ?_
      refine TL_nil ?_
      refine T_cond rfl (fun hq => ?_) (fun hq => ?_)
      · replace hm := condT hq hm
        refine T_seq ?_
        refine T_region ?_
        refine TL_pure rfl rfl rfl rfl (op_assign rfl) ?_
        refine TL_nil ?_
        refine T_keepH [4] [] rfl rfl rfl rfl (by rw [hF]; rfl) ?_
        refine T_ret ?_
        obtain rfl := someI hm
        have hn := CtlOK_out hc0
        exact hx0 (.inr false) hn
      · replace hm := condF hq hm
        refine T_skip ?_
        refine T_region ?_
        refine TL_pure rfl rfl rfl rfl (op_move rfl) ?_
        refine TL_pure rfl rfl rfl rfl (op_addW rfl rfl) ?_
        refine TL_pure rfl rfl rfl rfl (op_assign rfl) ?_
        refine TL_nil ?_
        refine TR_keepH [0, 1, 5] [] rfl rfl rfl rfl (by rw [hF]; rfl) ?_
        obtain rfl := someI hm
        have hn := CtlOK_next hc0
        exact hn _ rfl
    · replace hm := condF hq hm
      refine T_keepH [0, 1] [] rfl rfl rfl rfl (by rw [hF]; rfl) ?_
      refine T_exit ?_
      obtain rfl := someI hm
      have hn := CtlOK_out hc0
      exact hx0 (.inl ()) hn
theorem c_spec_l03State (p0 : State) (out : Bool) (hm : m_spec_l03State p0 = some out) : ACall Try.prog 75 [.cp [.sl 1 (List.map a_i64 p0.Vars), .sl 1 (List.map a_i64 p0.Cells)]] [] (.bool out) [] := by
  refine ACall.intro Try.func75 rfl Try.ntmps75 rfl (fun F hF => ?_)
  unfold m_spec_l03State at hm
  refine T_seq ?_
  refine T_region ?_
  refine TL_pure rfl rfl rfl rfl (op_assign rfl) ?_
  refine TL_nil ?_
  refine T_seq ?_
  refine T_region ?_
  refine TL_pure rfl rfl rfl rfl (op_move rfl) ?_
  refine TL_pure rfl rfl rfl rfl (op_nilCheck rfl rfl) ?_
  refine TL_pure rfl rfl rfl rfl (op_fieldAddrC (n := 1) fa28_0 rfl rfl rfl) ?_
  refine TL_pure rfl rfl rfl rfl (op_load_one ag26 rfl rfl) ?_
  obtain ⟨r7, hr7, hm⟩ := bindS hm
  refine TL_callF (c_spec_l03Numbers p0.Vars (4 : Int) r7 hr7) Try.call134 rfl rfl rfl rfl rfl ?_
  refine TL_pure rfl rfl rfl rfl (op_move rfl) ?_
  refine TL_split 8 rfl rfl rfl (fun hq => ?_) (fun hq => ?_)
  · replace hm := condT hq hm
    refine TL_want rfl rfl ?_
    refine TL_pure rfl rfl rfl rfl (op_move rfl) ?_
    refine TL_want rfl rfl ?_
    refine TL_pure rfl rfl rfl rfl (op_nilCheck rfl rfl) ?_
    refine TL_want rfl rfl ?_
    refine TL_pure rfl rfl rfl rfl (op_fieldAddr fa28_1 rfl rfl) ?_
    refine TL_want rfl rfl ?_
    refine TL_pure rfl rfl rfl rfl (op_load_one ag26 rfl rfl) ?_
    refine TL_want rfl rfl ?_
    obtain ⟨r13, hr13, hm⟩ := bindS hm
    refine TL_callF (c_spec_l03Numbers p0.Cells (8 : Int) r13 hr13) Try.call134 rfl rfl rfl rfl rfl ?_
    refine TL_pure rfl rfl rfl rfl (op_pick_true rfl rfl) ?_
    refine TL_pure rfl rfl rfl rfl (op_assign rfl) ?_
    refine TL_nil ?_
    refine T_keepH [2] [] rfl rfl rfl rfl (by rw [hF]; rfl) ?_
    refine T_ret ?_
    obtain rfl := someI hm
    refine ⟨[_], [], ⟨rfl, trivial⟩, ?_, rfl, rfl, rfl, rfl⟩
    rfl
  · replace hm := condF hq hm
    refine TL_pass rfl rfl rfl rfl rfl rfl rfl ?_
    refine TL_pass rfl rfl rfl rfl rfl rfl rfl ?_
    refine TL_pass rfl rfl rfl rfl rfl rfl rfl ?_
    refine TL_pass rfl rfl rfl rfl rfl rfl rfl ?_
    refine TL_pass rfl rfl rfl rfl rfl rfl rfl ?_
    refine TL_pure rfl rfl rfl rfl (op_pick_false rfl rfl) ?_
    refine TL_pure rfl rfl rfl rfl (op_assign rfl) ?_
    refine TL_nil ?_
    refine T_keepH [2] [] rfl rfl rfl rfl (by rw [hF]; rfl) ?_
    refine T_ret ?_
    obtain rfl := someI hm
    refine ⟨[_], [], ⟨rfl, trivial⟩, ?_, rfl, rfl, rfl, rfl⟩
    rfl
theorem c_spec_l03Fuel (p0 : Int) (out : Bool) (hm : m_spec_l03Fuel p0 = some out) : ACall Try.prog 76 [.int .i64 p0] [] (.bool out) [] := by
  refine ACall.intro Try.func76 rfl Try.ntmps76 rfl (fun F hF => ?_)
  unfold m_spec_l03Fuel at hm
  refine T_seq ?_
  refine T_region ?_
  refine TL_pure rfl rfl rfl rfl (op_assign rfl) ?_
  refine TL_nil ?_
  refine T_seq ?_
  refine T_region ?_
  refine TL_pure rfl rfl rfl rfl (op_move rfl) ?_
  obtain ⟨r4, hr4, hm⟩ := bindS hm
  refine TL_callF (c_spec_l00In p0 (0 : Int) (2000 : Int) r4 hr4) Try.call108 rfl rfl rfl rfl rfl ?_
  refine TL_pure rfl rfl rfl rfl (op_assign rfl) ?_
  refine TL_nil ?_
  refine T_keepH [2] [] rfl rfl rfl rfl (by rw [hF]; rfl) ?_
  refine T_ret ?_
  obtain rfl := someI hm
  refine ⟨[_], [], ⟨rfl, trivial⟩, ?_, rfl, rfl, rfl, rfl⟩
  rfl
theorem c_spec_l00Own (p0 : List Int) (out : List Int) (hm : m_spec_l00Own p0 = some out) : ACall Try.prog 137 [.sl 1 (List.map a_i64 p0)] [] (.ow 1000) [(1000, .arr ⟨false, true⟩ 1 2 (List.map a_i64 out))] := by
  refine ACall.intro Try.func137 rfl Try.ntmps137 rfl (fun F hF => ?_)
  unfold m_spec_l00Own at hm
  refine T_seq ?_
  refine T_region ?_
  refine TL_pure rfl rfl rfl rfl (op_assign rfl) ?_
  refine TL_nil ?_
  refine T_seq ?_
  refine T_region ?_
  refine TL_buildSlice 11 (es := List.map a_i64 ([] : List Int)) el26 z2 rfl rfl rfl rfl rfl rfl rfl rfl rfl ?_
  refine TL_pure rfl rfl rfl rfl (op_move rfl) ?_
  obtain ⟨q5, hq5, hm⟩ := bindS hm
  refine TL_appendT (f := a_i64) (a := ([] : List Int)) (b := p0) el26 z2 rfl rfl rfl rfl rfl rfl rfl (capI_spec hq5) rfl rfl rfl rfl rfl ?_
  refine TL_pure rfl rfl rfl rfl (op_assign rfl) ?_
  refine TL_nil ?_
  refine T_keepH [2] [11] rfl rfl rfl rfl (by rw [hF]; rfl) ?_
  refine T_deepen 11 (p' := false) (List.map a_i64 (([] : List Int) ++ p0)) (by rw [hF]; rfl) rfl (ElR.map (f := a_i64) (g := a_i64) (fun _ => ⟨⟨rfl, rfl⟩, trivial⟩) (([] : List Int) ++ p0)) rfl rfl rfl ?_
  refine T_ren [(11, 1000)] rfl rfl rfl (by rw [hF]; rfl) ?_
  refine T_ret ?_
  obtain rfl := someI hm
  refine ⟨[_], [1000], ⟨rfl, trivial⟩, ?_, rfl, rfl, rfl, rfl⟩
  rfl
theorem c_spec_l03Own (p0 : State) (out : State) (hm : m_spec_l03Own p0 = some out) : ACall Try.prog 135 [.cp [.sl 1 (List.map a_i64 p0.Vars), .sl 1 (List.map a_i64 p0.Cells)]] [] (.agg [.ow 1000, .ow 1001]) [(1000, .arr ⟨false, true⟩ 1 2 (List.map a_i64 out.Vars)), (1001, .arr ⟨false, true⟩ 1 2 (List.map a_i64 out.Cells))] := by
  refine ACall.intro Try.func135 rfl Try.ntmps135 rfl (fun F hF => ?_)
  unfold m_spec_l03Own at hm
  refine T_seq ?_
  refine T_region ?_
  refine TL_alloc 11 z28 rfl rfl rfl rfl rfl rfl rfl ?_
  refine TL_nil ?_
  refine T_seq ?_
  refine T_drawZ [11] mix (by kernel_rfl) rfl ?_
  obtain ⟨r7, hr7, hm⟩ := bindS hm
  obtain ⟨r12, hr12, hm⟩ := bindS hm
  refine TZ_pure 0 (by kernel_rfl) rfl rfl rfl rfl rfl (op_move rfl) ?_
  refine TZ_pure 1 (by kernel_rfl) rfl rfl rfl rfl rfl (op_nilCheck rfl rfl) ?_
  refine TZ_pure 2 (by kernel_rfl) rfl rfl rfl rfl rfl (op_fieldAddrC (n := 1) fa28_0 rfl rfl rfl) ?_
  refine TZ_pure 3 (by kernel_rfl) rfl rfl rfl rfl rfl (op_load_one ag26 rfl rfl) ?_
  refine TZ_pure 5 (by kernel_rfl) rfl rfl rfl rfl rfl (op_move rfl) ?_
  refine TZ_pure 6 (by kernel_rfl) rfl rfl rfl rfl rfl (op_nilCheck rfl rfl) ?_
  refine TZ_pure 7 (by kernel_rfl) rfl rfl rfl rfl rfl (op_fieldAddr fa28_1 rfl rfl) ?_
  refine TZ_pure 8 (by kernel_rfl) rfl rfl rfl rfl rfl (op_load_one ag26 rfl rfl) ?_
  refine TZ_one 4 (by kernel_rfl) rfl ?_
  refine TL_callO [(1000, 14)] (c_spec_l00Own p0.Vars r7 hr7) Try.call137 rfl rfl rfl rfl rfl rfl rfl rfl rfl rfl rfl rfl rfl ?_
  refine TL_nil ?_
  refine TZ_one 9 (by kernel_rfl) rfl ?_
  refine TL_callO [(1000, 15)] (c_spec_l00Own p0.Cells r12 hr12) Try.call137 rfl rfl rfl rfl rfl rfl rfl rfl rfl rfl rfl rfl rfl ?_
  refine TL_nil ?_
  refine TZ_pure 10 (by kernel_rfl) rfl rfl rfl rfl rfl (op_buildP pl28 z28 rfl rfl rfl rfl rfl) ?_
  refine TZ_one 11 (by kernel_rfl) rfl ?_
  refine TL_store_box sz28 rfl rfl rfl rfl rfl rfl rfl rfl rfl ?_
  refine TL_nil ?_
  refine TZ_done (by kernel_rfl) ?_
  refine T_keepH [2] [11, 14, 15] rfl rfl rfl rfl (by rw [hF]; rfl) ?_
  refine T_ren [(11, 11), (14, 1000), (15, 1001)] rfl rfl rfl (by rw [hF]; rfl) ?_
  refine T_ret ?_
  obtain rfl := someI hm
  refine ⟨[_], [1000, 1001], ⟨⟨_, _, rfl, rfl, .inr ⟨ag28, _, _, sz28, rfl, rfl⟩⟩, trivial⟩, ?_, rfl, rfl, rfl, rfl⟩
  rfl
theorem c_spec_l07Pops (p0 : Int) (out : Int) (hm : m_spec_l07Pops p0 = some out) : ACall Try.prog 138 [.int .i64 p0] [] (.int .i64 out) [] := by
  refine ACall.intro Try.func138 rfl Try.ntmps138 rfl (fun F hF => ?_)
  unfold m_spec_l07Pops at hm
  refine T_seq ?_
  refine T_region ?_
  refine TL_pure rfl rfl rfl rfl (op_assign rfl) ?_
  refine TL_nil ?_
  refine T_seq ?_
  refine T_seq ?_
  refine T_region ?_
  refine TL_pure rfl rfl rfl rfl (op_move rfl) ?_
  refine TL_nil ?_
  refine T_block ?_
  refine T_join (fun (j0 : Bool) => ⟨[(3, .int .i64 p0), (4, .bool j0)], []⟩) (fun j0 => m_spec_l07Pops_J0 p0 j0 = some out) (fun j0 hm => ?_) (fun hj0 => ?_)
  · unfold m_spec_l07Pops_J0 at hm
    refine T_cond rfl (fun hq => ?_) (fun hq => ?_)
    · replace hm := condT hq hm
      refine T_seq ?_
      refine T_region ?_
      refine TL_pure rfl rfl rfl rfl (op_assign rfl) ?_
      refine TL_nil ?_
      refine T_keepH [2] [] rfl rfl rfl rfl (by rw [hF]; rfl) ?_
      refine T_ret ?_
      obtain rfl := someI hm
      refine ⟨[_], [], ⟨rfl, trivial⟩, ?_, rfl, rfl, rfl, rfl⟩
      rfl
    · replace hm := condF hq hm
      refine T_seq ?_
      refine T_seq ?_
      refine T_region ?_
      refine TL_pure rfl rfl rfl rfl (op_eql rfl rfl) ?_
      refine TL_pure rfl rfl rfl rfl (op_assign rfl) ?_
      refine TL_nil ?_
      refine T_cond rfl (fun hq => ?_) (fun hq => ?_)
      · replace hm := condT hq hm
        refine T_skip ?_
        refine T_cond rfl (fun hq => ?_) (fun hq => ?_)
        · replace hm := condT hq hm
          refine T_seq ?_
          refine T_region ?_
          refine TL_pure rfl rfl rfl rfl (op_assign rfl) ?_
          refine TL_nil ?_
          refine T_keepH [2] [] rfl rfl rfl rfl (by rw [hF]; rfl) ?_
          refine T_ret ?_
          obtain rfl := someI hm
          refine ⟨[_], [], ⟨rfl, trivial⟩, ?_, rfl, rfl, rfl, rfl⟩
          rfl
        · replace hm := condF hq hm
          refine T_skip ?_
          refine T_seq ?_
          refine T_region ?_
          refine TL_pure rfl rfl rfl rfl (op_assign rfl) ?_
          refine TL_nil ?_
          refine T_keepH [2] [] rfl rfl rfl rfl (by rw [hF]; rfl) ?_
          refine T_ret ?_
          obtain rfl := someI hm
          refine ⟨[_], [], ⟨rfl, trivial⟩, ?_, rfl, rfl, rfl, rfl⟩
          rfl
      · replace hm := condF hq hm
        refine T_region ?_
        refine TL_pure rfl rfl rfl rfl (op_eql rfl rfl) ?_
        refine TL_pure rfl rfl rfl rfl (op_assign rfl) ?_
        refine TL_nil ?_
        refine T_cond rfl (fun hq => ?_) (fun hq => ?_)
        · replace hm := condT hq hm
          refine T_seq ?_
          refine T_region ?_
          refine TL_pure rfl rfl rfl rfl (op_assign rfl) ?_
          refine TL_nil ?_
          refine T_keepH [2] [] rfl rfl rfl rfl (by rw [hF]; rfl) ?_
          refine T_ret ?_
          obtain rfl := someI hm
          refine ⟨[_], [], ⟨rfl, trivial⟩, ?_, rfl, rfl, rfl, rfl⟩
          rfl
        · replace hm := condF hq hm
          refine T_skip ?_
          refine T_seq ?_
          refine T_region ?_
          refine TL_pure rfl rfl rfl rfl (op_assign rfl) ?_
          refine TL_nil ?_
          refine T_keepH [2] [] rfl rfl rfl rfl (by rw [hF]; rfl) ?_
          refine T_ret ?_
          obtain rfl := someI hm
          refine ⟨[_], [], ⟨rfl, trivial⟩, ?_, rfl, rfl, rfl, rfl⟩
          rfl
  · refine T_seq ?_
    refine T_region ?_
    refine TL_pure rfl rfl rfl rfl (op_eql rfl rfl) ?_
    refine TL_pure rfl rfl rfl rfl (op_assign rfl) ?_
    refine TL_nil ?_
    refine T_cond rfl (fun hq => ?_) (fun hq => ?_)
    · replace hm := condT hq hm
      refine T_skip ?_
      refine T_keepH [3, 4] [] rfl rfl rfl rfl (by rw [hF]; rfl) ?_
      exact hj0 (decide (p0 = (2 : Int))) hm
    · replace hm := condF hq hm
      refine T_seq ?_
      refine T_region ?_
      refine TL_pure rfl rfl rfl rfl (op_eql rfl rfl) ?_
      refine TL_pure rfl rfl rfl rfl (op_assign rfl) ?_
      refine TL_nil ?_
      refine T_cond rfl (fun hq => ?_) (fun hq => ?_)
      · replace hm := condT hq hm
        refine T_skip ?_
        refine T_keepH [3, 4] [] rfl rfl rfl rfl (by rw [hF]; rfl) ?_
        exact hj0 (decide (p0 = (4 : Int))) hm
      · replace hm := condF hq hm
        refine T_seq ?_
        refine T_region ?_
        refine TL_pure rfl rfl rfl rfl (op_eql rfl rfl) ?_
        refine TL_pure rfl rfl rfl rfl (op_assign rfl) ?_
        refine TL_nil ?_
        refine T_cond rfl (fun hq => ?_) (fun hq => ?_)
        · replace hm := condT hq hm
          refine T_skip ?_
          refine T_keepH [3, 4] [] rfl rfl rfl rfl (by rw [hF]; rfl) ?_
          exact hj0 (decide (p0 = (6 : Int))) hm
        · replace hm := condF hq hm
          refine T_seq ?_
          refine T_region ?_
          refine TL_pure rfl rfl rfl rfl (op_eql rfl rfl) ?_
          refine TL_pure rfl rfl rfl rfl (op_assign rfl) ?_
          refine TL_nil ?_
          refine T_cond rfl (fun hq => ?_) (fun hq => ?_)
          · replace hm := condT hq hm
            refine T_skip ?_
            refine T_keepH [3, 4] [] rfl rfl rfl rfl (by rw [hF]; rfl) ?_
            exact hj0 (decide (p0 = (7 : Int))) hm
          · replace hm := condF hq hm
            refine T_region ?_
            refine TL_pure rfl rfl rfl rfl (op_eql rfl rfl) ?_
            refine TL_pure rfl rfl rfl rfl (op_assign rfl) ?_
            refine TL_nil ?_
            refine T_keepH [3, 4] [] rfl rfl rfl rfl (by rw [hF]; rfl) ?_
            exact hj0 (decide (p0 = (10 : Int))) hm
theorem c_spec_l07Pushes (p0 : Int) (out : Int) (hm : m_spec_l07Pushes p0 = some out) : ACall Try.prog 139 [.int .i64 p0] [] (.int .i64 out) [] := by
  refine ACall.intro Try.func139 rfl Try.ntmps139 rfl (fun F hF => ?_)
  unfold m_spec_l07Pushes at hm
  refine T_seq ?_
  refine T_region ?_
  refine TL_pure rfl rfl rfl rfl (op_assign rfl) ?_
  refine TL_nil ?_
  refine T_seq ?_
  refine T_seq ?_
  refine T_region ?_
  refine TL_pure rfl rfl rfl rfl (op_move rfl) ?_
  refine TL_nil ?_
  refine T_block ?_
  refine T_seq ?_
  refine T_seq ?_
  refine T_region ?_
  refine TL_pure rfl rfl rfl rfl (op_eql rfl rfl) ?_
  refine TL_pure rfl rfl rfl rfl (op_assign rfl) ?_
  refine TL_nil ?_
  refine T_cond rfl (fun hq => ?_) (fun hq => ?_)
  · replace hm := condT hq hm
    refine T_skip ?_
    refine T_cond rfl (fun hq => ?_) (fun hq => ?_)
    · replace hm := condT hq hm
      refine T_seq ?_
      refine T_region ?_
      refine TL_pure rfl rfl rfl rfl (op_assign rfl) ?_
      refine TL_nil ?_
      refine T_keepH [2] [] rfl rfl rfl rfl (by rw [hF]; rfl) ?_
      refine T_ret ?_
      obtain rfl := someI hm
      refine ⟨[_], [], ⟨rfl, trivial⟩, ?_, rfl, rfl, rfl, rfl⟩
      rfl
    · replace hm := condF hq hm
      refine T_skip ?_
      refine T_seq ?_
      refine T_region ?_
      refine TL_pure rfl rfl rfl rfl (op_assign rfl) ?_
      refine TL_nil ?_
      refine T_keepH [2] [] rfl rfl rfl rfl (by rw [hF]; rfl) ?_
      refine T_ret ?_
      obtain rfl := someI hm
      refine ⟨[_], [], ⟨rfl, trivial⟩, ?_, rfl, rfl, rfl, rfl⟩
      rfl
  · replace hm := condF hq hm
    refine T_seq ?_
    refine T_region ?_
    refine TL_pure rfl rfl rfl rfl (op_eql rfl rfl) ?_
    refine TL_pure rfl rfl rfl rfl (op_assign rfl) ?_
    refine TL_nil ?_
    refine T_cond rfl (fun hq => ?_) (fun hq => ?_)
    · replace hm := condT hq hm
      refine T_skip ?_
      refine T_cond rfl (fun hq => ?_) (fun hq => ?_)
      · replace hm := condT hq hm
        refine T_seq ?_
        refine T_region ?_
        refine TL_pure rfl rfl rfl rfl (op_assign rfl) ?_
        refine TL_nil ?_
        refine T_keepH [2] [] rfl rfl rfl rfl (by rw [hF]; rfl) ?_
        refine T_ret ?_
        obtain rfl := someI hm
        refine ⟨[_], [], ⟨rfl, trivial⟩, ?_, rfl, rfl, rfl, rfl⟩
        rfl
      · replace hm := condF hq hm
        refine T_skip ?_
        refine T_seq ?_
        refine T_region ?_
        refine TL_pure rfl rfl rfl rfl (op_assign rfl) ?_
        refine TL_nil ?_
        refine T_keepH [2] [] rfl rfl rfl rfl (by rw [hF]; rfl) ?_
        refine T_ret ?_
        obtain rfl := someI hm
        refine ⟨[_], [], ⟨rfl, trivial⟩, ?_, rfl, rfl, rfl, rfl⟩
        rfl
    · replace hm := condF hq hm
      refine T_seq ?_
      refine T_region ?_
      refine TL_pure rfl rfl rfl rfl (op_eql rfl rfl) ?_
      refine TL_pure rfl rfl rfl rfl (op_assign rfl) ?_
      refine TL_nil ?_
      refine T_cond rfl (fun hq => ?_) (fun hq => ?_)
      · replace hm := condT hq hm
        refine T_skip ?_
        refine T_cond rfl (fun hq => ?_) (fun hq => ?_)
        · replace hm := condT hq hm
          refine T_seq ?_
          refine T_region ?_
          refine TL_pure rfl rfl rfl rfl (op_assign rfl) ?_
          refine TL_nil ?_
          refine T_keepH [2] [] rfl rfl rfl rfl (by rw [hF]; rfl) ?_
          refine T_ret ?_
          obtain rfl := someI hm
          refine ⟨[_], [], ⟨rfl, trivial⟩, ?_, rfl, rfl, rfl, rfl⟩
          rfl
        · replace hm := condF hq hm
          refine T_skip ?_
          refine T_seq ?_
          refine T_region ?_
          refine TL_pure rfl rfl rfl rfl (op_assign rfl) ?_
          refine TL_nil ?_
          refine T_keepH [2] [] rfl rfl rfl rfl (by rw [hF]; rfl) ?_
          refine T_ret ?_
          obtain rfl := someI hm
          refine ⟨[_], [], ⟨rfl, trivial⟩, ?_, rfl, rfl, rfl, rfl⟩
          rfl
      · replace hm := condF hq hm
        refine T_seq ?_
        refine T_region ?_
        refine TL_pure rfl rfl rfl rfl (op_eql rfl rfl) ?_
        refine TL_pure rfl rfl rfl rfl (op_assign rfl) ?_
        refine TL_nil ?_
        refine T_cond rfl (fun hq => ?_) (fun hq => ?_)
        · replace hm := condT hq hm
          refine T_skip ?_
          refine T_cond rfl (fun hq => ?_) (fun hq => ?_)
          · replace hm := condT hq hm
            refine T_seq ?_
            refine T_region ?_
            refine TL_pure rfl rfl rfl rfl (op_assign rfl) ?_
            refine TL_nil ?_
            refine T_keepH [2] [] rfl rfl rfl rfl (by rw [hF]; rfl) ?_
            refine T_ret ?_
            obtain rfl := someI hm
            refine ⟨[_], [], ⟨rfl, trivial⟩, ?_, rfl, rfl, rfl, rfl⟩
            rfl
          · replace hm := condF hq hm
            refine T_skip ?_
            refine T_seq ?_
            refine T_region ?_
            refine TL_pure rfl rfl rfl rfl (op_assign rfl) ?_
            refine TL_nil ?_
            refine T_keepH [2] [] rfl rfl rfl rfl (by rw [hF]; rfl) ?_
            refine T_ret ?_
            obtain rfl := someI hm
            refine ⟨[_], [], ⟨rfl, trivial⟩, ?_, rfl, rfl, rfl, rfl⟩
            rfl
        · replace hm := condF hq hm
          refine T_region ?_
          refine TL_pure rfl rfl rfl rfl (op_eql rfl rfl) ?_
          refine TL_pure rfl rfl rfl rfl (op_assign rfl) ?_
          refine TL_nil ?_
          refine T_cond rfl (fun hq => ?_) (fun hq => ?_)
          · replace hm := condT hq hm
            refine T_seq ?_
            refine T_region ?_
            refine TL_pure rfl rfl rfl rfl (op_assign rfl) ?_
            refine TL_nil ?_
            refine T_keepH [2] [] rfl rfl rfl rfl (by rw [hF]; rfl) ?_
            refine T_ret ?_
            obtain rfl := someI hm
            refine ⟨[_], [], ⟨rfl, trivial⟩, ?_, rfl, rfl, rfl, rfl⟩
            rfl
          · replace hm := condF hq hm
            refine T_skip ?_
            refine T_seq ?_
            refine T_region ?_
            refine TL_pure rfl rfl rfl rfl (op_assign rfl) ?_
            refine TL_nil ?_
            refine T_keepH [2] [] rfl rfl rfl rfl (by rw [hF]; rfl) ?_
            refine T_ret ?_
            obtain rfl := someI hm
            refine ⟨[_], [], ⟨rfl, trivial⟩, ?_, rfl, rfl, rfl, rfl⟩
            rfl
theorem c_spec_l03Cell (p0 : Int) (out : Bool) (hm : m_spec_l03Cell p0 = some out) : ACall Try.prog 140 [.int .i64 p0] [] (.bool out) [] := by
  refine ACall.intro Try.func140 rfl Try.ntmps140 rfl (fun F hF => ?_)
  unfold m_spec_l03Cell at hm
  refine T_seq ?_
  refine T_region ?_
  refine TL_pure rfl rfl rfl rfl (op_assign rfl) ?_
  refine TL_nil ?_
  refine T_seq ?_
  refine T_region ?_
  refine TL_pure rfl rfl rfl rfl (op_move rfl) ?_
  obtain ⟨r4, hr4, hm⟩ := bindS hm
  refine TL_callF (c_spec_l00In p0 (0 : Int) (7 : Int) r4 hr4) Try.call108 rfl rfl rfl rfl rfl ?_
  refine TL_pure rfl rfl rfl rfl (op_assign rfl) ?_
  refine TL_nil ?_
  refine T_keepH [2] [] rfl rfl rfl rfl (by rw [hF]; rfl) ?_
  refine T_ret ?_
  obtain rfl := someI hm
  refine ⟨[_], [], ⟨rfl, trivial⟩, ?_, rfl, rfl, rfl, rfl⟩
  rfl
theorem c_spec_l07Wide (p0 : Int) (out : Bool) (hm : m_spec_l07Wide p0 = some out) : ACall Try.prog 136 [.int .i64 p0] [] (.bool out) [] := by
  refine ACall.intro Try.func136 rfl Try.ntmps136 rfl (fun F hF => ?_)
  unfold m_spec_l07Wide at hm
  refine T_seq ?_
  refine T_region ?_
  refine TL_pure rfl rfl rfl rfl (op_assign rfl) ?_
  refine TL_nil ?_
  refine T_seq ?_
  refine T_region ?_
  refine TL_pure rfl rfl rfl rfl (op_move rfl) ?_
  obtain ⟨r4, hr4, hm⟩ := bindS hm
  refine TL_callF (c_spec_l00In p0 (-10000000000000000 : Int) (10000000000000000 : Int) r4 hr4) Try.call108 rfl rfl rfl rfl rfl ?_
  refine TL_pure rfl rfl rfl rfl (op_assign rfl) ?_
  refine TL_nil ?_
  refine T_keepH [2] [] rfl rfl rfl rfl (by rw [hF]; rfl) ?_
  refine T_ret ?_
  obtain rfl := someI hm
  refine ⟨[_], [], ⟨rfl, trivial⟩, ?_, rfl, rfl, rfl, rfl⟩
  rfl
theorem c_spec_l00Max (p0 : Int) (p1 : Int) (out : Int) (hm : m_spec_l00Max p0 p1 = some out) : ACall Try.prog 176 [.int .i64 p0, .int .i64 p1] [] (.int .i64 out) [] := by
  refine ACall.intro Try.func176 rfl Try.ntmps176 rfl (fun F hF => ?_)
  unfold m_spec_l00Max at hm
  refine T_seq ?_
  refine T_region ?_
  refine TL_pure rfl rfl rfl rfl (op_assign rfl) ?_
  refine TL_nil ?_
  refine T_seq ?_
  refine T_seq ?_
  refine T_region ?_
  refine TL_pure rfl rfl rfl rfl (op_move rfl) ?_
  refine TL_pure rfl rfl rfl rfl (op_move rfl) ?_
  refine TL_pure rfl rfl rfl rfl (op_gtr rfl rfl) ?_
  refine TL_nil ?_
  refine T_cond rfl (fun hq => ?_) (fun hq => ?_)
  · replace hm := condT hq hm
    refine T_seq ?_
    refine T_region ?_
    refine TL_pure rfl rfl rfl rfl (op_move rfl) ?_
    refine TL_pure rfl rfl rfl rfl (op_assign rfl) ?_
    refine TL_nil ?_
    refine T_keepH [4] [] rfl rfl rfl rfl (by rw [hF]; rfl) ?_
    refine T_ret ?_
    obtain rfl := someI hm
    refine ⟨[_], [], ⟨rfl, trivial⟩, ?_, rfl, rfl, rfl, rfl⟩
    rfl
  · replace hm := condF hq hm
    refine T_skip ?_
    refine T_seq ?_
    refine T_region ?_
    refine TL_pure rfl rfl rfl rfl (op_move rfl) ?_
    refine TL_pure rfl rfl rfl rfl (op_assign rfl) ?_
    refine TL_nil ?_
    refine T_keepH [4] [] rfl rfl rfl rfl (by rw [hF]; rfl) ?_
    refine T_ret ?_
    obtain rfl := someI hm
    refine ⟨[_], [], ⟨rfl, trivial⟩, ?_, rfl, rfl, rfl, rfl⟩
    rfl
theorem c_spec_l07Far (p0 : Int) (p1 : Int) (out : Bool) (hm : m_spec_l07Far p0 p1 = some out) : ACall Try.prog 141 [.int .i64 p0, .int .i64 p1] [] (.bool out) [] := by
  refine ACall.intro Try.func141 rfl Try.ntmps141 rfl (fun F hF => ?_)
  unfold m_spec_l07Far at hm
  refine T_seq ?_
  refine T_region ?_
  refine TL_pure rfl rfl rfl rfl (op_assign rfl) ?_
  refine TL_nil ?_
  refine T_seq ?_
  refine T_seq ?_
  refine T_region ?_
  refine TL_pure rfl rfl rfl rfl (op_move rfl) ?_
  refine TL_pure rfl rfl rfl rfl (op_eql rfl rfl) ?_
  refine TL_nil ?_
  refine T_cond rfl (fun hq => ?_) (fun hq => ?_)
  · replace hm := condT hq hm
    refine T_seq ?_
    refine T_region ?_
    refine TL_pure rfl rfl rfl rfl (op_assign rfl) ?_
    refine TL_nil ?_
    refine T_keepH [4] [] rfl rfl rfl rfl (by rw [hF]; rfl) ?_
    refine T_ret ?_
    obtain rfl := someI hm
    refine ⟨[_], [], ⟨rfl, trivial⟩, ?_, rfl, rfl, rfl, rfl⟩
    rfl
  · replace hm := condF hq hm
    refine T_skip ?_
    refine T_seq ?_
    refine T_region ?_
    refine TL_pure rfl rfl rfl rfl (op_move rfl) ?_
    refine TL_pure rfl rfl rfl rfl (op_move rfl) ?_
    refine TL_pure rfl rfl rfl rfl (op_negW rfl) ?_
    obtain ⟨r11, hr11, hm⟩ := bindS hm
    refine TL_callF (c_spec_l00Max p0 (w64 (0 - p0)) r11 hr11) Try.call176 rfl rfl rfl rfl rfl ?_
    refine TL_pure rfl rfl rfl rfl (op_assign rfl) ?_
    refine TL_nil ?_
    refine T_seq ?_
    refine T_region ?_
    refine TL_pure rfl rfl rfl rfl (op_move rfl) ?_
    refine TL_pure rfl rfl rfl rfl (op_move rfl) ?_
    refine TL_pure rfl rfl rfl rfl (op_move rfl) ?_
    refine TL_pure rfl rfl rfl rfl (op_negW rfl) ?_
    obtain ⟨r16, hr16, hm⟩ := bindS hm
    refine TL_callF (c_spec_l00Max p1 (w64 (0 - p1)) r16 hr16) Try.call176 rfl rfl rfl rfl rfl ?_
    obtain ⟨q17, hq17, hm⟩ := bindS hm
    refine TL_pure rfl rfl rfl rfl (op_quoT rfl rfl hq17) ?_
    refine TL_pure rfl rfl rfl rfl (op_gtr rfl rfl) ?_
    refine TL_pure rfl rfl rfl rfl (op_assign rfl) ?_
    refine TL_nil ?_
    refine T_keepH [4] [] rfl rfl rfl rfl (by rw [hF]; rfl) ?_
    refine T_ret ?_
    obtain rfl := someI hm
    refine ⟨[_], [], ⟨rfl, trivial⟩, ?_, rfl, rfl, rfl, rfl⟩
    rfl
theorem c_spec_l03Int (p0 : Int) (out : Bool) (hm : m_spec_l03Int p0 = some out) : ACall Try.prog 142 [.int .i64 p0] [] (.bool out) [] := by
  refine ACall.intro Try.func142 rfl Try.ntmps142 rfl (fun F hF => ?_)
  unfold m_spec_l03Int at hm
  refine T_seq ?_
  refine T_region ?_
  refine TL_pure rfl rfl rfl rfl (op_assign rfl) ?_
  refine TL_nil ?_
  refine T_seq ?_
  refine T_region ?_
  refine TL_pure rfl rfl rfl rfl (op_move rfl) ?_
  obtain ⟨r4, hr4, hm⟩ := bindS hm
  refine TL_callF (c_spec_l00In p0 (-1000000000 : Int) (1000000000 : Int) r4 hr4) Try.call108 rfl rfl rfl rfl rfl ?_
  refine TL_pure rfl rfl rfl rfl (op_assign rfl) ?_
  refine TL_nil ?_
  refine T_keepH [2] [] rfl rfl rfl rfl (by rw [hF]; rfl) ?_
  refine T_ret ?_
  obtain rfl := someI hm
  refine ⟨[_], [], ⟨rfl, trivial⟩, ?_, rfl, rfl, rfl, rfl⟩
  rfl
theorem c_spec_l07Next (p0 : List Instr) (p1 : Config) (out : Config × Int) (hm : m_spec_l07Next p0 p1 = some out) : ACall Try.prog 82 [.sl 2 (List.map a_Instr p0), .cp [.sl 1 (List.map a_i64 p1.State.Vars), .sl 1 (List.map a_i64 p1.State.Cells), .sl 1 (List.map a_i64 p1.Stack), .int .i64 p1.At]] [] (.tup [.agg [.ow 1000, .ow 1001, .ow 1002, .int .i64 out.1.At], .int .i64 out.2]) [(1000, .arr ⟨false, true⟩ 1 2 (List.map a_i64 out.1.State.Vars)), (1001, .arr ⟨false, true⟩ 1 2 (List.map a_i64 out.1.State.Cells)), (1002, .arr ⟨false, true⟩ 1 2 (List.map a_i64 out.1.Stack))] := by
  refine ACall.intro Try.func82 rfl Try.ntmps82 rfl (fun F hF => ?_)
  unfold m_spec_l07Next at hm
  refine T_seq ?_
  refine T_region ?_
  refine TL_alloc 11 z35 rfl rfl rfl rfl rfl rfl rfl ?_
  refine TL_pure rfl rfl rfl rfl (op_assign rfl) ?_
  refine TL_nil ?_
  refine T_join (fun (j0 : (List Int) × (List Int) × (List Int)) => ⟨[(0, .sl 2 (List.map a_Instr p0)), (1, .cp [.sl 1 (List.map a_i64 p1.State.Vars), .sl 1 (List.map a_i64 p1.State.Cells), .sl 1 (List.map a_i64 p1.Stack), .int .i64 p1.At]), (4, .ptr 11 0 0), (6, .ptr 21 0 0)], [(11, .box [.snil, .snil, .snil, .int .i64 (0 : Int)]), (16, .arr ⟨false, true⟩ 1 2 (List.map a_i64 j0.1)), (17, .arr ⟨false, true⟩ 1 2 (List.map a_i64 j0.2.1)), (19, .arr ⟨false, true⟩ 1 2 (List.map a_i64 j0.2.2)), (21, .box [.ow 16, .ow 17, .ow 19, .int .i64 p1.At])]⟩) (fun j0 => m_spec_l07Next_J0 p0 p1 j0 = some out) (fun j0 hm => ?_) (fun hj0 => ?_)
  · unfold m_spec_l07Next_J0 at hm
    refine T_seq ?_
    refine T_seq ?_
    refine T_region ?_
    refine TL_pure rfl rfl rfl rfl (op_move rfl) ?_
    refine TL_pure rfl rfl rfl rfl (op_nilCheck rfl rfl) ?_
    refine TL_pure rfl rfl rfl rfl (op_fieldAddr fa35_2 rfl rfl) ?_
    refine TL_pure rfl rfl rfl rfl (op_load_one ag2 rfl rfl) ?_
    refine TL_pure rfl rfl rfl rfl (op_move rfl) ?_
    refine TL_pure rfl rfl rfl rfl (op_lenT Try.underlying24 rfl (List.length_map _)) ?_
    refine TL_fact (fun _ _ _ hr => RelP.slLen (i := 30) rfl hr) (fun hlen31 => ?_)
    rw [List.length_map] at hlen31
    refine TL_pure rfl rfl rfl rfl (op_geq rfl rfl) ?_
    refine TL_nil ?_
    refine T_cond rfl (fun hq => ?_) (fun hq => ?_)
    · replace hm := condT hq hm
      refine T_seq ?_
      refine T_region ?_
      refine TL_pure rfl rfl rfl rfl (op_load_agg ag35 sz35 rfl rfl rfl) ?_
      refine TL_store_box sz35 rfl rfl rfl rfl rfl rfl rfl rfl rfl ?_
      refine TL_pure rfl rfl rfl rfl (op_assign rfl) ?_
      refine TL_nil ?_
      refine T_keepH [4, 5] [11, 16, 17, 19] rfl rfl rfl rfl (by rw [hF]; rfl) ?_
      refine T_ren [(11, 11), (16, 1000), (17, 1001), (19, 1002)] rfl rfl rfl (by rw [hF]; rfl) ?_
      refine T_ret ?_
      obtain rfl := someI hm
      refine ⟨[_, _], [1000, 1001, 1002], ⟨⟨_, _, rfl, rfl, .inr ⟨ag35, _, _, sz35, rfl, rfl⟩⟩, rfl, trivial⟩, ?_, rfl, rfl, rfl, rfl⟩
      rfl
    · replace hm := condF hq hm
      refine T_skip ?_
      refine T_seq ?_
      refine T_region ?_
      refine TL_pure rfl rfl rfl rfl (op_move rfl) ?_
      refine TL_pure rfl rfl rfl rfl (op_move rfl) ?_
      refine TL_pure rfl rfl rfl rfl (op_nilCheck rfl rfl) ?_
      refine TL_pure rfl rfl rfl rfl (op_fieldAddr fa35_2 rfl rfl) ?_
      refine TL_pure rfl rfl rfl rfl (op_load_one ag2 rfl rfl) ?_
      obtain ⟨x39, hx39, hm⟩ := bindS hm
      refine TL_pure rfl rfl rfl rfl (op_indexT el24 rfl rfl hx39 rfl) ?_
      refine TL_pure rfl rfl rfl rfl (op_load_agg ag40 sz40 rfl rfl rfl) ?_
      refine TL_alloc 26 z40 rfl rfl rfl rfl rfl rfl rfl ?_
      refine TL_store_box sz40 rfl rfl rfl rfl rfl rfl rfl rfl rfl ?_
      refine TL_nil ?_
      refine T_seq ?_
      refine T_region ?_
      refine TL_pure rfl rfl rfl rfl (op_fieldAddr fa40_0 rfl rfl) ?_
      refine TL_pure rfl rfl rfl rfl (op_load_one ag2 rfl rfl) ?_
      obtain ⟨r43, hr43, hm⟩ := bindS hm
      refine TL_callF (c_spec_l07Pops x39.Op r43 hr43) Try.call138 rfl rfl rfl rfl rfl ?_
      refine TL_pure rfl rfl rfl rfl (op_assign rfl) ?_
      refine TL_nil ?_
      refine T_seq ?_
      refine T_region ?_
      refine TL_pure rfl rfl rfl rfl (op_move rfl) ?_
      refine TL_pure rfl rfl rfl rfl (op_nilCheck rfl rfl) ?_
      refine TL_pure rfl rfl rfl rfl (op_fieldAddrC (n := 1) fa35_1 rfl rfl rfl) ?_
      refine TL_pure rfl rfl rfl rfl (op_load_one ag26 rfl rfl) ?_
      refine TL_pure rfl rfl rfl rfl (op_lenT Try.underlying26 rfl (List.length_map _)) ?_
      refine TL_fact (fun _ _ _ hr => RelP.slLen (i := 47) rfl hr) (fun hlen48 => ?_)
      rw [List.length_map] at hlen48
      refine TL_pure rfl rfl rfl rfl (op_move rfl) ?_
      refine TL_pure rfl rfl rfl rfl (op_subW rfl rfl) ?_
      refine TL_pure rfl rfl rfl rfl (op_assign rfl) ?_
      refine TL_nil ?_
      refine T_seq ?_
      refine T_seq ?_
      refine T_region ?_
      refine TL_pure rfl rfl rfl rfl (op_move rfl) ?_
      refine TL_pure rfl rfl rfl rfl (op_lss rfl rfl) ?_
      refine TL_pure rfl rfl rfl rfl (op_move rfl) ?_
      refine TL_split 53 rfl rfl rfl (fun hq => ?_) (fun hq => ?_)
      · replace hm := condT hq hm
        refine TL_pass rfl rfl rfl rfl rfl rfl rfl ?_
        refine TL_pass rfl rfl rfl rfl rfl rfl rfl ?_
        refine TL_pass rfl rfl rfl rfl rfl rfl rfl ?_
        refine TL_pass rfl rfl rfl rfl rfl rfl rfl ?_
        refine TL_pass rfl rfl rfl rfl rfl rfl rfl ?_
        refine TL_pass rfl rfl rfl rfl rfl rfl rfl ?_
        refine TL_pure rfl rfl rfl rfl (op_pick_true rfl rfl) ?_
        refine TL_nil ?_
        refine T_cond_true rfl ?_
        refine T_seq ?_
        refine T_region ?_
        refine TL_pure rfl rfl rfl rfl (op_load_agg ag35 sz35 rfl rfl rfl) ?_
        refine TL_store_box sz35 rfl rfl rfl rfl rfl rfl rfl rfl rfl ?_
        refine TL_pure rfl rfl rfl rfl (op_assign rfl) ?_
        refine TL_nil ?_
        refine T_keepH [4, 5] [11, 16, 17, 19] rfl rfl rfl rfl (by rw [hF]; rfl) ?_
        refine T_ren [(11, 11), (16, 1000), (17, 1001), (19, 1002)] rfl rfl rfl (by rw [hF]; rfl) ?_
        refine T_ret ?_
        obtain rfl := someI hm
        refine ⟨[_, _], [1000, 1001, 1002], ⟨⟨_, _, rfl, rfl, .inr ⟨ag35, _, _, sz35, rfl, rfl⟩⟩, rfl, trivial⟩, ?_, rfl, rfl, rfl, rfl⟩
        rfl
      · replace hm := condF hq hm
        refine TL_want rfl rfl ?_
        refine TL_pure rfl rfl rfl rfl (op_move rfl) ?_
        refine TL_want rfl rfl ?_
        refine TL_pure rfl rfl rfl rfl (op_fieldAddr fa40_0 rfl rfl) ?_
        refine TL_want rfl rfl ?_
        refine TL_pure rfl rfl rfl rfl (op_load_one ag2 rfl rfl) ?_
        refine TL_want rfl rfl ?_
        obtain ⟨r57, hr57, hm⟩ := bindS hm
        refine TL_callF (c_spec_l07Pushes x39.Op r57 hr57) Try.call139 rfl rfl rfl rfl rfl ?_
        refine TL_want rfl rfl ?_
        refine TL_pure rfl rfl rfl rfl (op_addW rfl rfl) ?_
        refine TL_want rfl rfl ?_
        refine TL_pure rfl rfl rfl rfl (op_gtr rfl rfl) ?_
        refine TL_pure rfl rfl rfl rfl (op_pick_false rfl rfl) ?_
        refine TL_nil ?_
        refine T_cond rfl (fun hq => ?_) (fun hq => ?_)
        · replace hm := condT hq hm
          refine T_seq ?_
          refine T_region ?_
          refine TL_pure rfl rfl rfl rfl (op_load_agg ag35 sz35 rfl rfl rfl) ?_
          refine TL_store_box sz35 rfl rfl rfl rfl rfl rfl rfl rfl rfl ?_
          refine TL_pure rfl rfl rfl rfl (op_assign rfl) ?_
          refine TL_nil ?_
          refine T_keepH [4, 5] [11, 16, 17, 19] rfl rfl rfl rfl (by rw [hF]; rfl) ?_
          refine T_ren [(11, 11), (16, 1000), (17, 1001), (19, 1002)] rfl rfl rfl (by rw [hF]; rfl) ?_
          refine T_ret ?_
          obtain rfl := someI hm
          refine ⟨[_, _], [1000, 1001, 1002], ⟨⟨_, _, rfl, rfl, .inr ⟨ag35, _, _, sz35, rfl, rfl⟩⟩, rfl, trivial⟩, ?_, rfl, rfl, rfl, rfl⟩
          rfl
        · replace hm := condF hq hm
          refine T_skip ?_
          refine T_seq ?_
          refine T_seq ?_
          refine T_region ?_
          refine TL_pure rfl rfl rfl rfl (op_fieldAddr fa40_0 rfl rfl) ?_
          refine TL_pure rfl rfl rfl rfl (op_load_one ag2 rfl rfl) ?_
          refine TL_pure rfl rfl rfl rfl (op_eql rfl rfl) ?_
          refine TL_nil ?_
          refine T_cond rfl (fun hq => ?_) (fun hq => ?_)
          · replace hm := condT hq hm
            refine T_seq ?_
            refine T_region ?_
            refine TL_pure rfl rfl rfl rfl (op_load_agg ag35 sz35 rfl rfl rfl) ?_
            refine TL_store_box sz35 rfl rfl rfl rfl rfl rfl rfl rfl rfl ?_
            refine TL_pure rfl rfl rfl rfl (op_assign rfl) ?_
            refine TL_nil ?_
            refine T_keepH [4, 5] [11, 16, 17, 19] rfl rfl rfl rfl (by rw [hF]; rfl) ?_
            refine T_ren [(11, 11), (16, 1000), (17, 1001), (19, 1002)] rfl rfl rfl (by rw [hF]; rfl) ?_
            refine T_ret ?_
            obtain rfl := someI hm
            refine ⟨[_, _], [1000, 1001, 1002], ⟨⟨_, _, rfl, rfl, .inr ⟨ag35, _, _, sz35, rfl, rfl⟩⟩, rfl, trivial⟩, ?_, rfl, rfl, rfl, rfl⟩
            rfl
          · replace hm := condF hq hm
            refine T_skip ?_
            refine T_seq ?_
            refine T_region ?_
            refine TL_pure rfl rfl rfl rfl (op_assign rfl) ?_
            refine TL_nil ?_
            refine T_seq ?_
            refine T_region ?_
            refine TL_pure rfl rfl rfl rfl (op_assign rfl) ?_
            refine TL_nil ?_
            refine T_join (fun (j1 : Int) => ⟨[(1, .cp [.sl 1 (List.map a_i64 p1.State.Vars), .sl 1 (List.map a_i64 p1.State.Cells), .sl 1 (List.map a_i64 p1.Stack), .int .i64 p1.At]), (4, .ptr 11 0 0), (6, .ptr 21 0 0), (7, .ptr 26 0 0), (8, .int .i64 r43), (9, .int .i64 (w64 ((p1.Stack.length : Int) - r43))), (10, .int .i64 j1), (11, .int .i64 (0 : Int))], [(11, .box [.snil, .snil, .snil, .int .i64 (0 : Int)]), (16, .arr ⟨false, true⟩ 1 2 (List.map a_i64 j0.1)), (17, .arr ⟨false, true⟩ 1 2 (List.map a_i64 j0.2.1)), (19, .arr ⟨false, true⟩ 1 2 (List.map a_i64 j0.2.2)), (21, .box [.ow 16, .ow 17, .ow 19, .int .i64 p1.At]), (26, .box [.int .i64 x39.Op, .int .i64 x39.Arg])]⟩) (fun j1 => m_spec_l07Next_J1 p1 j0 x39 r43 j1 = some out) (fun j1 hm => ?_) (fun hj1 => ?_)
            · unfold m_spec_l07Next_J1 at hm
              refine T_join (fun (j2 : Int) => ⟨[(1, .cp [.sl 1 (List.map a_i64 p1.State.Vars), .sl 1 (List.map a_i64 p1.State.Cells), .sl 1 (List.map a_i64 p1.Stack), .int .i64 p1.At]), (4, .ptr 11 0 0), (6, .ptr 21 0 0), (7, .ptr 26 0 0), (9, .int .i64 (w64 ((p1.Stack.length : Int) - r43))), (10, .int .i64 j1), (11, .int .i64 j2)], [(11, .box [.snil, .snil, .snil, .int .i64 (0 : Int)]), (16, .arr ⟨false, true⟩ 1 2 (List.map a_i64 j0.1)), (17, .arr ⟨false, true⟩ 1 2 (List.map a_i64 j0.2.1)), (19, .arr ⟨false, true⟩ 1 2 (List.map a_i64 j0.2.2)), (21, .box [.ow 16, .ow 17, .ow 19, .int .i64 p1.At]), (26, .box [.int .i64 x39.Op, .int .i64 x39.Arg])]⟩) (fun j2 => m_spec_l07Next_J2 p1 j0 x39 r43 j1 j2 = some out) (fun j2 hm => ?_) (fun hj2 => ?_)
              · unfold m_spec_l07Next_J2 at hm
                refine T_join (fun (j3 : Unit) => ⟨[(1, .cp [.sl 1 (List.map a_i64 p1.State.Vars), .sl 1 (List.map a_i64 p1.State.Cells), .sl 1 (List.map a_i64 p1.Stack), .int .i64 p1.At]), (4, .ptr 11 0 0), (6, .ptr 21 0 0), (7, .ptr 26 0 0), (9, .int .i64 (w64 ((p1.Stack.length : Int) - r43))), (10, .int .i64 j1), (11, .int .i64 j2)], [(11, .box [.snil, .snil, .snil, .int .i64 (0 : Int)]), (16, .arr ⟨false, true⟩ 1 2 (List.map a_i64 j0.1)), (17, .arr ⟨false, true⟩ 1 2 (List.map a_i64 j0.2.1)), (19, .arr ⟨false, true⟩ 1 2 (List.map a_i64 j0.2.2)), (21, .box [.ow 16, .ow 17, .ow 19, .int .i64 p1.At]), (26, .box [.int .i64 x39.Op, .int .i64 x39.Arg])]⟩) (fun j3 => m_spec_l07Next_J3 p1 j0 x39 r43 j1 j2 j3 = some out) (fun j3 hm => ?_) (fun hj3 => ?_)
                · unfold m_spec_l07Next_J3 at hm
                  refine T_join (fun (j4 : Unit) => ⟨[(1, .cp [.sl 1 (List.map a_i64 p1.State.Vars), .sl 1 (List.map a_i64 p1.State.Cells), .sl 1 (List.map a_i64 p1.Stack), .int .i64 p1.At]), (4, .ptr 11 0 0), (6, .ptr 21 0 0), (7, .ptr 26 0 0), (9, .int .i64 (w64 ((p1.Stack.length : Int) - r43))), (10, .int .i64 j1), (11, .int .i64 j2)], [(11, .box [.snil, .snil, .snil, .int .i64 (0 : Int)]), (16, .arr ⟨false, true⟩ 1 2 (List.map a_i64 j0.1)), (17, .arr ⟨false, true⟩ 1 2 (List.map a_i64 j0.2.1)), (19, .arr ⟨false, true⟩ 1 2 (List.map a_i64 j0.2.2)), (21, .box [.ow 16, .ow 17, .ow 19, .int .i64 p1.At]), (26, .box [.int .i64 x39.Op, .int .i64 x39.Arg])]⟩) (fun j4 => m_spec_l07Next_J4 p1 j0 x39 r43 j1 j2 j4 = some out) (fun j4 hm => ?_) (fun hj4 => ?_)
                  · unfold m_spec_l07Next_J4 at hm
                    refine T_seq ?_
                    refine T_seq ?_
                    refine T_region ?_
                    refine TL_pure rfl rfl rfl rfl (op_fieldAddr fa40_0 rfl rfl) ?_
                    refine TL_pure rfl rfl rfl rfl (op_load_one ag2 rfl rfl) ?_
                    refine TL_pure rfl rfl rfl rfl (op_eql rfl rfl) ?_
                    refine TL_pure rfl rfl rfl rfl (op_move rfl) ?_
                    refine TL_join 3 (fun _ : Unit => ⟨[(1, .cp [.sl 1 (List.map a_i64 p1.State.Vars), .sl 1 (List.map a_i64 p1.State.Cells), .sl 1 (List.map a_i64 p1.Stack), .int .i64 p1.At]), (4, .ptr 11 0 0), (6, .ptr 21 0 0), (7, .ptr 26 0 0), (9, .int .i64 (w64 ((p1.Stack.length : Int) - r43))), (10, .int .i64 j1), (11, .int .i64 j2), (151, .bool ((decide (x39.Op = (10 : Int))) && (decide (j1 < (0 : Int)))))], [(11, .box [.snil, .snil, .snil, .int .i64 (0 : Int)]), (16, .arr ⟨false, true⟩ 1 2 (List.map a_i64 j0.1)), (17, .arr ⟨false, true⟩ 1 2 (List.map a_i64 j0.2.1)), (19, .arr ⟨false, true⟩ 1 2 (List.map a_i64 j0.2.2)), (21, .box [.ow 16, .ow 17, .ow 19, .int .i64 p1.At]), (26, .box [.int .i64 x39.Op, .int .i64 x39.Arg])]⟩) (fun _ => True) (fun _ _ => ?_) (fun hjj => ?_)
                    · refine TL_nil ?_
                      refine T_cond rfl (fun hq => ?_) (fun hq => ?_)
                      · replace hm := condT hq hm
                        refine T_seq ?_
                        refine T_region ?_
                        refine TL_pure rfl rfl rfl rfl (op_load_agg ag35 sz35 rfl rfl rfl) ?_
                        refine TL_store_box sz35 rfl rfl rfl rfl rfl rfl rfl rfl rfl ?_
                        refine TL_pure rfl rfl rfl rfl (op_assign rfl) ?_
                        refine TL_nil ?_
                        refine T_keepH [4, 5] [11, 16, 17, 19] rfl rfl rfl rfl (by rw [hF]; rfl) ?_
                        refine T_ren [(11, 11), (16, 1000), (17, 1001), (19, 1002)] rfl rfl rfl (by rw [hF]; rfl) ?_
                        refine T_ret ?_
                        obtain rfl := someI hm
                        refine ⟨[_, _], [1000, 1001, 1002], ⟨⟨_, _, rfl, rfl, .inr ⟨ag35, _, _, sz35, rfl, rfl⟩⟩, rfl, trivial⟩, ?_, rfl, rfl, rfl, rfl⟩
                        rfl
                      · replace hm := condF hq hm
                        refine T_skip ?_
                        refine T_seq ?_
                        refine T_region ?_
                        refine TL_pure rfl rfl rfl rfl (op_move rfl) ?_
                        refine TL_pure rfl rfl rfl rfl (op_nilCheck rfl rfl) ?_
                        refine TL_pure rfl rfl rfl rfl (op_fieldAddrC (n := 1) fa35_1 rfl rfl rfl) ?_
                        refine TL_pure rfl rfl rfl rfl (op_load_one ag26 rfl rfl) ?_
                        refine TL_pure rfl rfl rfl rfl (op_move rfl) ?_
                        obtain ⟨y158, hy158, hm⟩ := bindS hm
                        refine TL_pure rfl rfl rfl rfl (op_sliceI el26 rfl ⟨rfl, ⟨_, rfl⟩⟩ hy158) ?_
                        obtain ⟨r159, hr159, hm⟩ := bindS hm
                        refine TL_callO [(1000, 27)] (c_spec_l00Own y158 r159 hr159) Try.call137 rfl rfl rfl rfl rfl rfl rfl rfl rfl rfl rfl rfl rfl ?_
                        refine TL_pure rfl rfl rfl rfl (op_fieldAddr fa35_1 rfl rfl) ?_
                        refine TL_store_box sz26 rfl rfl rfl rfl rfl rfl rfl rfl rfl ?_
                        refine TL_nil ?_
                        refine T_seq ?_
                        refine T_region ?_
                        refine TL_pure rfl rfl rfl rfl (op_move rfl) ?_
                        refine TL_pure rfl rfl rfl rfl (op_nilCheck rfl rfl) ?_
                        refine TL_pure rfl rfl rfl rfl (op_fieldAddr fa35_2 rfl rfl) ?_
                        refine TL_pure rfl rfl rfl rfl (op_load_one ag2 rfl rfl) ?_
                        refine TL_pure rfl rfl rfl rfl (op_addW rfl rfl) ?_
                        refine TL_pure rfl rfl rfl rfl (op_fieldAddr fa35_2 rfl rfl) ?_
                        refine TL_store_box sz2 rfl rfl rfl rfl rfl rfl rfl rfl rfl ?_
                        refine TL_nil ?_
                        refine T_seq ?_
                        refine T_seq ?_
                        refine T_region ?_
                        refine TL_pure rfl rfl rfl rfl (op_fieldAddr fa40_0 rfl rfl) ?_
                        refine TL_pure rfl rfl rfl rfl (op_load_one ag2 rfl rfl) ?_
                        refine TL_nil ?_
                        refine T_block ?_
                        refine T_seq ?_
                        refine T_region ?_
                        refine TL_pure rfl rfl rfl rfl (op_eql rfl rfl) ?_
                        refine TL_pure rfl rfl rfl rfl (op_assign rfl) ?_
                        refine TL_nil ?_
                        refine T_cond rfl (fun hq => ?_) (fun hq => ?_)
                        · replace hm := condT hq hm
                          refine T_region ?_
                          refine TL_pure rfl rfl rfl rfl (op_fieldAddr fa35_1 rfl rfl) ?_
                          refine TL_pure rfl rfl rfl rfl (op_load_one ag26 rfl rfl) ?_
                          refine TL_pure rfl rfl rfl rfl (op_fieldAddr fa40_1 rfl rfl) ?_
                          refine TL_pure rfl rfl rfl rfl (op_load_one ag2 rfl rfl) ?_
                          refine TL_buildSlice 28 (es := List.map a_i64 [x39.Arg]) el26 z2 rfl rfl rfl rfl rfl rfl rfl rfl rfl ?_
                          refine TL_undeep 27 (p' := false) (by rw [hF]; rfl) rfl (ElR.map (f := a_i64) (g := a_i64) (fun _ => ⟨⟨rfl, rfl⟩, trivial⟩) r159) rfl ?_
                          obtain ⟨q176, hq176, hm⟩ := bindS hm
                          refine TL_appendT (f := a_i64) (a := r159) (b := [x39.Arg]) el26 z2 rfl rfl rfl rfl rfl rfl rfl (capI_spec hq176) rfl rfl rfl rfl rfl ?_
                          refine TL_pure rfl rfl rfl rfl (op_fieldAddr fa35_1 rfl rfl) ?_
                          refine TL_store_box sz26 rfl rfl rfl rfl rfl rfl rfl rfl rfl ?_
                          refine TL_nil ?_
                          refine T_seq ?_
                          refine T_region ?_
                          refine TL_pure rfl rfl rfl rfl (op_load_agg ag35 sz35 rfl rfl rfl) ?_
                          refine TL_store_box sz35 rfl rfl rfl rfl rfl rfl rfl rfl rfl ?_
                          refine TL_pure rfl rfl rfl rfl (op_assign rfl) ?_
                          refine TL_nil ?_
                          refine T_keepH [4, 5] [11, 16, 17, 27] rfl rfl rfl rfl (by rw [hF]; rfl) ?_
                          refine T_deepen 27 (p' := false) (List.map a_i64 (r159 ++ [x39.Arg])) (by rw [hF]; rfl) rfl (ElR.map (f := a_i64) (g := a_i64) (fun _ => ⟨⟨rfl, rfl⟩, trivial⟩) (r159 ++ [x39.Arg])) rfl rfl rfl ?_
                          refine T_ren [(11, 11), (16, 1000), (17, 1001), (27, 1002)] rfl rfl rfl (by rw [hF]; rfl) ?_
                          refine T_ret ?_
                          obtain rfl := someI hm
                          refine ⟨[_, _], [1000, 1001, 1002], ⟨⟨_, _, rfl, rfl, .inr ⟨ag35, _, _, sz35, rfl, rfl⟩⟩, rfl, trivial⟩, ?_, rfl, rfl, rfl, rfl⟩
                          rfl
                        · replace hm := condF hq hm
                          refine T_seq ?_
                          refine T_region ?_
                          refine TL_pure rfl rfl rfl rfl (op_eql rfl rfl) ?_
                          refine TL_pure rfl rfl rfl rfl (op_assign rfl) ?_
                          refine TL_nil ?_
                          refine T_cond rfl (fun hq => ?_) (fun hq => ?_)
                          · replace hm := condT hq hm
                            refine T_drawZ [11, 12, 14] mix (by kernel_rfl) rfl ?_
                            obtain ⟨x189, hx189, hm⟩ := bindS hm
                            obtain ⟨q192, hq192, hm⟩ := bindS hm
                            refine TZ_pure 0 (by kernel_rfl) rfl rfl rfl rfl rfl (op_fieldAddr fa35_1 rfl rfl) ?_
                            refine TZ_pure 2 (by kernel_rfl) rfl rfl rfl rfl rfl (op_move rfl) ?_
                            refine TZ_pure 3 (by kernel_rfl) rfl rfl rfl rfl rfl (op_nilCheck rfl rfl) ?_
                            refine TZ_pure 4 (by kernel_rfl) rfl rfl rfl rfl rfl (op_fieldAddrC (n := 2) fa35_0 rfl rfl rfl) ?_
                            refine TZ_pure 5 (by kernel_rfl) rfl rfl rfl rfl rfl (op_fieldAddrC (n := 1) fa28_0 rfl rfl rfl) ?_
                            refine TZ_pure 7 (by kernel_rfl) rfl rfl rfl rfl rfl (op_fieldAddr fa40_1 rfl rfl) ?_
                            refine TZ_each [1, 6, 8] (by kernel_rfl) rfl ?_
                            refine ⟨?_, ?_, ?_⟩
                            · refine ⟨_, rfl, ?_⟩
                              refine TL_pure rfl rfl rfl rfl (op_load_one ag26 rfl rfl) ?_
                              refine TL_nil ?_
                              refine TZ_each [6, 8] (by kernel_rfl) rfl ?_
                              refine ⟨?_, ?_⟩
                              · refine ⟨_, rfl, ?_⟩
                                refine TL_pure rfl rfl rfl rfl (op_load_one ag26 rfl rfl) ?_
                                refine TL_nil ?_
                                refine TZ_one 8 (by kernel_rfl) rfl ?_
                                refine TL_pure rfl rfl rfl rfl (op_load_one ag2 rfl rfl) ?_
                                refine TL_nil ?_
                                refine TZ_pure 9 (by kernel_rfl) rfl rfl rfl rfl rfl (op_indexT el26 rfl rfl hx189 rfl) ?_
                                refine TZ_one 10 (by kernel_rfl) rfl ?_
                                refine TL_pure rfl rfl rfl rfl (op_load_one ag2 rfl rfl) ?_
                                refine TL_nil ?_
                                refine TZ_one 11 (by kernel_rfl) rfl ?_
                                refine TL_buildSlice 30 (es := List.map a_i64 [x189]) el26 z2 rfl rfl rfl rfl rfl rfl rfl rfl rfl ?_
                                refine TL_nil ?_
                                refine TZ_one 12 (by kernel_rfl) rfl ?_
                                refine TL_undeep 27 (p' := false) (by rw [hF]; rfl) rfl (ElR.map (f := a_i64) (g := a_i64) (fun _ => ⟨⟨rfl, rfl⟩, trivial⟩) r159) rfl ?_
                                refine TL_appendT (f := a_i64) (a := r159) (b := [x189]) el26 z2 rfl rfl rfl rfl rfl rfl rfl (capI_spec hq192) rfl rfl rfl rfl rfl ?_
                                refine TL_nil ?_
                                refine TZ_pure 13 (by kernel_rfl) rfl rfl rfl rfl rfl (op_fieldAddr fa35_1 rfl rfl) ?_
                                refine TZ_one 14 (by kernel_rfl) rfl ?_
                                refine TL_store_box sz26 rfl rfl rfl rfl rfl rfl rfl rfl rfl ?_
                                refine TL_nil ?_
                                refine TZ_done (by kernel_rfl) ?_
                                refine T_seq ?_
                                refine T_region ?_
                                refine TL_pure rfl rfl rfl rfl (op_load_agg ag35 sz35 rfl rfl rfl) ?_
                                refine TL_store_box sz35 rfl rfl rfl rfl rfl rfl rfl rfl rfl ?_
                                refine TL_pure rfl rfl rfl rfl (op_assign rfl) ?_
                                refine TL_nil ?_
                                refine T_keepH [4, 5] [11, 16, 17, 27] rfl rfl rfl rfl (by rw [hF]; rfl) ?_
                                refine T_deepen 27 (p' := false) (List.map a_i64 (r159 ++ [x189])) (by rw [hF]; rfl) rfl (ElR.map (f := a_i64) (g := a_i64) (fun _ => ⟨⟨rfl, rfl⟩, trivial⟩) (r159 ++ [x189])) rfl rfl rfl ?_
                                refine T_ren [(11, 11), (16, 1000), (17, 1001), (27, 1002)] rfl rfl rfl (by rw [hF]; rfl) ?_
                                refine T_ret ?_
                                obtain rfl := someI hm
                                refine ⟨[_, _], [1000, 1001, 1002], ⟨⟨_, _, rfl, rfl, .inr ⟨ag35, _, _, sz35, rfl, rfl⟩⟩, rfl, trivial⟩, ?_, rfl, rfl, rfl, rfl⟩
                                rfl
                              · refine ⟨_, rfl, ?_⟩
                                refine TL_pure rfl rfl rfl rfl (op_load_one ag2 rfl rfl) ?_
                                refine TL_nil ?_
                                refine TZ_one 6 (by kernel_rfl) rfl ?_
                                refine TL_pure rfl rfl rfl rfl (op_load_one ag26 rfl rfl) ?_
                                refine TL_nil ?_
                                refine TZ_pure 9 (by kernel_rfl) rfl rfl rfl rfl rfl (op_indexT el26 rfl rfl hx189 rfl) ?_
                                refine TZ_one 10 (by kernel_rfl) rfl ?_
                                refine TL_pure rfl rfl rfl rfl (op_load_one ag2 rfl rfl) ?_
                                refine TL_nil ?_
                                refine TZ_one 11 (by kernel_rfl) rfl ?_
                                refine TL_buildSlice 31 (es := List.map a_i64 [x189]) el26 z2 rfl rfl rfl rfl rfl rfl rfl rfl rfl ?_
                                refine TL_nil ?_
                                refine TZ_one 12 (by kernel_rfl) rfl ?_
                                refine TL_undeep 27 (p' := false) (by rw [hF]; rfl) rfl (ElR.map (f := a_i64) (g := a_i64) (fun _ => ⟨⟨rfl, rfl⟩, trivial⟩) r159) rfl ?_
                                refine TL_appendT (f := a_i64) (a := r159) (b := [x189]) el26 z2 rfl rfl rfl rfl rfl rfl rfl (capI_spec hq192) rfl rfl rfl rfl rfl ?_
                                refine TL_nil ?_
                                refine TZ_pure 13 (by kernel_rfl) rfl rfl rfl rfl rfl (op_fieldAddr fa35_1 rfl rfl) ?_
                                refine TZ_one 14 (by kernel_rfl) rfl ?_
                                refine TL_store_box sz26 rfl rfl rfl rfl rfl rfl rfl rfl rfl ?_
                                refine TL_nil ?_
                                refine TZ_done (by kernel_rfl) ?_
                                refine T_seq ?_
                                refine T_region ?_
                                refine TL_pure rfl rfl rfl rfl (op_load_agg ag35 sz35 rfl rfl rfl) ?_
                                refine TL_store_box sz35 rfl rfl rfl rfl rfl rfl rfl rfl rfl ?_
                                refine TL_pure rfl rfl rfl rfl (op_assign rfl) ?_
                                refine TL_nil ?_
                                refine T_keepH [4, 5] [11, 16, 17, 27] rfl rfl rfl rfl (by rw [hF]; rfl) ?_
                                refine T_deepen 27 (p' := false) (List.map a_i64 (r159 ++ [x189])) (by rw [hF]; rfl) rfl (ElR.map (f := a_i64) (g := a_i64) (fun _ => ⟨⟨rfl, rfl⟩, trivial⟩) (r159 ++ [x189])) rfl rfl rfl ?_
                                refine T_ren [(11, 11), (16, 1000), (17, 1001), (27, 1002)] rfl rfl rfl (by rw [hF]; rfl) ?_
                                refine T_ret ?_
                                obtain rfl := someI hm
                                refine ⟨[_, _], [1000, 1001, 1002], ⟨⟨_, _, rfl, rfl, .inr ⟨ag35, _, _, sz35, rfl, rfl⟩⟩, rfl, trivial⟩, ?_, rfl, rfl, rfl, rfl⟩
                                rfl
                            · refine ⟨_, rfl, ?_⟩
                              refine TL_pure rfl rfl rfl rfl (op_load_one ag26 rfl rfl) ?_
                              refine TL_nil ?_
                              refine TZ_each [1, 8] (by kernel_rfl) rfl ?_
                              refine ⟨?_, ?_⟩
                              · refine ⟨_, rfl, ?_⟩
                                refine TL_pure rfl rfl rfl rfl (op_load_one ag26 rfl rfl) ?_
                                refine TL_nil ?_
                                refine TZ_one 8 (by kernel_rfl) rfl ?_
                                refine TL_pure rfl rfl rfl rfl (op_load_one ag2 rfl rfl) ?_
                                refine TL_nil ?_
                                refine TZ_pure 9 (by kernel_rfl) rfl rfl rfl rfl rfl (op_indexT el26 rfl rfl hx189 rfl) ?_
                                refine TZ_one 10 (by kernel_rfl) rfl ?_
                                refine TL_pure rfl rfl rfl rfl (op_load_one ag2 rfl rfl) ?_
                                refine TL_nil ?_
                                refine TZ_one 11 (by kernel_rfl) rfl ?_
                                refine TL_buildSlice 32 (es := List.map a_i64 [x189]) el26 z2 rfl rfl rfl rfl rfl rfl rfl rfl rfl ?_
                                refine TL_nil ?_
                                refine TZ_one 12 (by kernel_rfl) rfl ?_
                                refine TL_undeep 27 (p' := false) (by rw [hF]; rfl) rfl (ElR.map (f := a_i64) (g := a_i64) (fun _ => ⟨⟨rfl, rfl⟩, trivial⟩) r159) rfl ?_
                                refine TL_appendT (f := a_i64) (a := r159) (b := [x189]) el26 z2 rfl rfl rfl rfl rfl rfl rfl (capI_spec hq192) rfl rfl rfl rfl rfl ?_
                                refine TL_nil ?_
                                refine TZ_pure 13 (by kernel_rfl) rfl rfl rfl rfl rfl (op_fieldAddr fa35_1 rfl rfl) ?_
                                refine TZ_one 14 (by kernel_rfl) rfl ?_
                                refine TL_store_box sz26 rfl rfl rfl rfl rfl rfl rfl rfl rfl ?_
                                refine TL_nil ?_
                                refine TZ_done (by kernel_rfl) ?_
                                refine T_seq ?_
                                refine T_region ?_
                                refine TL_pure rfl rfl rfl rfl (op_load_agg ag35 sz35 rfl rfl rfl) ?_
                                refine TL_store_box sz35 rfl rfl rfl rfl rfl rfl rfl rfl rfl ?_
                                refine TL_pure rfl rfl rfl rfl (op_assign rfl) ?_
                                refine TL_nil ?_
                                refine T_keepH [4, 5] [11, 16, 17, 27] rfl rfl rfl rfl (by rw [hF]; rfl) ?_
                                refine T_deepen 27 (p' := false) (List.map a_i64 (r159 ++ [x189])) (by rw [hF]; rfl) rfl (ElR.map (f := a_i64) (g := a_i64) (fun _ => ⟨⟨rfl, rfl⟩, trivial⟩) (r159 ++ [x189])) rfl rfl rfl ?_
                                refine T_ren [(11, 11), (16, 1000), (17, 1001), (27, 1002)] rfl rfl rfl (by rw [hF]; rfl) ?_
                                refine T_ret ?_
                                obtain rfl := someI hm
                                refine ⟨[_, _], [1000, 1001, 1002], ⟨⟨_, _, rfl, rfl, .inr ⟨ag35, _, _, sz35, rfl, rfl⟩⟩, rfl, trivial⟩, ?_, rfl, rfl, rfl, rfl⟩
                                rfl
                              · refine ⟨_, rfl, ?_⟩
                                refine TL_pure rfl rfl rfl rfl (op_load_one ag2 rfl rfl) ?_
                                refine TL_nil ?_
                                refine TZ_pure 9 (by kernel_rfl) rfl rfl rfl rfl rfl (op_indexT el26 rfl rfl hx189 rfl) ?_
                                refine TZ_each [1, 10] (by kernel_rfl) rfl ?_
                                refine ⟨?_, ?_⟩
                                · refine ⟨_, rfl, ?_⟩
                                  refine TL_pure rfl rfl rfl rfl (op_load_one ag26 rfl rfl) ?_
                                  refine TL_nil ?_
                                  refine TZ_one 10 (by kernel_rfl) rfl ?_
                                  refine TL_pure rfl rfl rfl rfl (op_load_one ag2 rfl rfl) ?_
                                  refine TL_nil ?_
                                  refine TZ_one 11 (by kernel_rfl) rfl ?_
                                  refine TL_buildSlice 33 (es := List.map a_i64 [x189]) el26 z2 rfl rfl rfl rfl rfl rfl rfl rfl rfl ?_
                                  refine TL_nil ?_
                                  refine TZ_one 12 (by kernel_rfl) rfl ?_
                                  refine TL_undeep 27 (p' := false) (by rw [hF]; rfl) rfl (ElR.map (f := a_i64) (g := a_i64) (fun _ => ⟨⟨rfl, rfl⟩, trivial⟩) r159) rfl ?_
                                  refine TL_appendT (f := a_i64) (a := r159) (b := [x189]) el26 z2 rfl rfl rfl rfl rfl rfl rfl (capI_spec hq192) rfl rfl rfl rfl rfl ?_
                                  refine TL_nil ?_
                                  refine TZ_pure 13 (by kernel_rfl) rfl rfl rfl rfl rfl (op_fieldAddr fa35_1 rfl rfl) ?_
                                  refine TZ_one 14 (by kernel_rfl) rfl ?_
                                  refine TL_store_box sz26 rfl rfl rfl rfl rfl rfl rfl rfl rfl ?_
                                  refine TL_nil ?_
                                  refine TZ_done (by kernel_rfl) ?_
                                  refine T_seq ?_
                                  refine T_region ?_
                                  refine TL_pure rfl rfl rfl rfl (op_load_agg ag35 sz35 rfl rfl rfl) ?_
                                  refine TL_store_box sz35 rfl rfl rfl rfl rfl rfl rfl rfl rfl ?_
                                  refine TL_pure rfl rfl rfl rfl (op_assign rfl) ?_
                                  refine TL_nil ?_
                                  refine T_keepH [4, 5] [11, 16, 17, 27] rfl rfl rfl rfl (by rw [hF]; rfl) ?_
                                  refine T_deepen 27 (p' := false) (List.map a_i64 (r159 ++ [x189])) (by rw [hF]; rfl) rfl (ElR.map (f := a_i64) (g := a_i64) (fun _ => ⟨⟨rfl, rfl⟩, trivial⟩) (r159 ++ [x189])) rfl rfl rfl ?_
                                  refine T_ren [(11, 11), (16, 1000), (17, 1001), (27, 1002)] rfl rfl rfl (by rw [hF]; rfl) ?_
                                  refine T_ret ?_
                                  obtain rfl := someI hm
                                  refine ⟨[_, _], [1000, 1001, 1002], ⟨⟨_, _, rfl, rfl, .inr ⟨ag35, _, _, sz35, rfl, rfl⟩⟩, rfl, trivial⟩, ?_, rfl, rfl, rfl, rfl⟩
                                  rfl
                                · refine ⟨_, rfl, ?_⟩
                                  refine TL_pure rfl rfl rfl rfl (op_load_one ag2 rfl rfl) ?_
                                  refine TL_nil ?_
                                  refine TZ_each [1, 11] (by kernel_rfl) rfl ?_
                                  refine ⟨?_, ?_⟩
                                  · refine ⟨_, rfl, ?_⟩
                                    refine TL_pure rfl rfl rfl rfl (op_load_one ag26 rfl rfl) ?_
                                    refine TL_nil ?_
                                    refine TZ_one 11 (by kernel_rfl) rfl ?_
                                    refine TL_buildSlice 35 (es := List.map a_i64 [x189]) el26 z2 rfl rfl rfl rfl rfl rfl rfl rfl rfl ?_
                                    refine TL_nil ?_
                                    refine TZ_one 12 (by kernel_rfl) rfl ?_
                                    refine TL_undeep 27 (p' := false) (by rw [hF]; rfl) rfl (ElR.map (f := a_i64) (g := a_i64) (fun _ => ⟨⟨rfl, rfl⟩, trivial⟩) r159) rfl ?_
                                    refine TL_appendT (f := a_i64) (a := r159) (b := [x189]) el26 z2 rfl rfl rfl rfl rfl rfl rfl (capI_spec hq192) rfl rfl rfl rfl rfl ?_
                                    refine TL_nil ?_
                                    refine TZ_pure 13 (by kernel_rfl) rfl rfl rfl rfl rfl (op_fieldAddr fa35_1 rfl rfl) ?_
                                    refine TZ_one 14 (by kernel_rfl) rfl ?_
                                    refine TL_store_box sz26 rfl rfl rfl rfl rfl rfl rfl rfl rfl ?_
                                    refine TL_nil ?_
                                    refine TZ_done (by kernel_rfl) ?_
                                    refine T_seq ?_
                                    refine T_region ?_
                                    refine TL_pure rfl rfl rfl rfl (op_load_agg ag35 sz35 rfl rfl rfl) ?_
                                    refine TL_store_box sz35 rfl rfl rfl rfl rfl rfl rfl rfl rfl ?_
                                    refine TL_pure rfl rfl rfl rfl (op_assign rfl) ?_
                                    refine TL_nil ?_
                                    refine T_keepH [4, 5] [11, 16, 17, 27] rfl rfl rfl rfl (by rw [hF]; rfl) ?_
                                    refine T_deepen 27 (p' := false) (List.map a_i64 (r159 ++ [x189])) (by rw [hF]; rfl) rfl (ElR.map (f := a_i64) (g := a_i64) (fun _ => ⟨⟨rfl, rfl⟩, trivial⟩) (r159 ++ [x189])) rfl rfl rfl ?_
                                    refine T_ren [(11, 11), (16, 1000), (17, 1001), (27, 1002)] rfl rfl rfl (by rw [hF]; rfl) ?_
                                    refine T_ret ?_
                                    obtain rfl := someI hm
                                    refine ⟨[_, _], [1000, 1001, 1002], ⟨⟨_, _, rfl, rfl, .inr ⟨ag35, _, _, sz35, rfl, rfl⟩⟩, rfl, trivial⟩, ?_, rfl, rfl, rfl, rfl⟩
                                    rfl
                                  · refine ⟨_, rfl, ?_⟩
                                    refine TL_buildSlice 34 (es := List.map a_i64 [x189]) el26 z2 rfl rfl rfl rfl rfl rfl rfl rfl rfl ?_
                                    refine TL_nil ?_
                                    refine TZ_pure 1 (by kernel_rfl) rfl rfl rfl rfl rfl (op_load_one ag26 rfl rfl) ?_
                                    refine TZ_one 12 (by kernel_rfl) rfl ?_
                                    refine TL_undeep 27 (p' := false) (by rw [hF]; rfl) rfl (ElR.map (f := a_i64) (g := a_i64) (fun _ => ⟨⟨rfl, rfl⟩, trivial⟩) r159) rfl ?_
                                    refine TL_appendT (f := a_i64) (a := r159) (b := [x189]) el26 z2 rfl rfl rfl rfl rfl rfl rfl (capI_spec hq192) rfl rfl rfl rfl rfl ?_
                                    refine TL_nil ?_
                                    refine TZ_pure 13 (by kernel_rfl) rfl rfl rfl rfl rfl (op_fieldAddr fa35_1 rfl rfl) ?_
                                    refine TZ_one 14 (by kernel_rfl) rfl ?_
                                    refine TL_store_box sz26 rfl rfl rfl rfl rfl rfl rfl rfl rfl ?_
                                    refine TL_nil ?_
                                    refine TZ_done (by kernel_rfl) ?_
                                    refine T_seq ?_
                                    refine T_region ?_
                                    refine TL_pure rfl rfl rfl rfl (op_load_agg ag35 sz35 rfl rfl rfl) ?_
                                    refine TL_store_box sz35 rfl rfl rfl rfl rfl rfl rfl rfl rfl ?_
                                    refine TL_pure rfl rfl rfl rfl (op_assign rfl) ?_
                                    refine TL_nil ?_
                                    refine T_keepH [4, 5] [11, 16, 17, 27] rfl rfl rfl rfl (by rw [hF]; rfl) ?_
                                    refine T_deepen 27 (p' := false) (List.map a_i64 (r159 ++ [x189])) (by rw [hF]; rfl) rfl (ElR.map (f := a_i64) (g := a_i64) (fun _ => ⟨⟨rfl, rfl⟩, trivial⟩) (r159 ++ [x189])) rfl rfl rfl ?_
                                    refine T_ren [(11, 11), (16, 1000), (17, 1001), (27, 1002)] rfl rfl rfl (by rw [hF]; rfl) ?_
                                    refine T_ret ?_
                                    obtain rfl := someI hm
                                    refine ⟨[_, _], [1000, 1001, 1002], ⟨⟨_, _, rfl, rfl, .inr ⟨ag35, _, _, sz35, rfl, rfl⟩⟩, rfl, trivial⟩, ?_, rfl, rfl, rfl, rfl⟩
                                    rfl
                            · refine ⟨_, rfl, ?_⟩
                              refine TL_pure rfl rfl rfl rfl (op_load_one ag2 rfl rfl) ?_
                              refine TL_nil ?_
                              refine TZ_each [1, 6] (by kernel_rfl) rfl ?_
                              refine ⟨?_, ?_⟩
                              · refine ⟨_, rfl, ?_⟩
                                refine TL_pure rfl rfl rfl rfl (op_load_one ag26 rfl rfl) ?_
                                refine TL_nil ?_
                                refine TZ_one 6 (by kernel_rfl) rfl ?_
                                refine TL_pure rfl rfl rfl rfl (op_load_one ag26 rfl rfl) ?_
                                refine TL_nil ?_
                                refine TZ_pure 9 (by kernel_rfl) rfl rfl rfl rfl rfl (op_indexT el26 rfl rfl hx189 rfl) ?_
                                refine TZ_one 10 (by kernel_rfl) rfl ?_
                                refine TL_pure rfl rfl rfl rfl (op_load_one ag2 rfl rfl) ?_
                                refine TL_nil ?_
                                refine TZ_one 11 (by kernel_rfl) rfl ?_
                                refine TL_buildSlice 36 (es := List.map a_i64 [x189]) el26 z2 rfl rfl rfl rfl rfl rfl rfl rfl rfl ?_
                                refine TL_nil ?_
                                refine TZ_one 12 (by kernel_rfl) rfl ?_
                                refine TL_undeep 27 (p' := false) (by rw [hF]; rfl) rfl (ElR.map (f := a_i64) (g := a_i64) (fun _ => ⟨⟨rfl, rfl⟩, trivial⟩) r159) rfl ?_
                                refine TL_appendT (f := a_i64) (a := r159) (b := [x189]) el26 z2 rfl rfl rfl rfl rfl rfl rfl (capI_spec hq192) rfl rfl rfl rfl rfl ?_
                                refine TL_nil ?_
                                refine TZ_pure 13 (by kernel_rfl) rfl rfl rfl rfl rfl (op_fieldAddr fa35_1 rfl rfl) ?_
                                refine TZ_one 14 (by kernel_rfl) rfl ?_
                                refine TL_store_box sz26 rfl rfl rfl rfl rfl rfl rfl rfl rfl ?_
                                refine TL_nil ?_
                                refine TZ_done (by kernel_rfl) ?_
                                refine T_seq ?_
                                refine T_region ?_
                                refine TL_pure rfl rfl rfl rfl (op_load_agg ag35 sz35 rfl rfl rfl) ?_
                                refine TL_store_box sz35 rfl rfl rfl rfl rfl rfl rfl rfl rfl ?_
                                refine TL_pure rfl rfl rfl rfl (op_assign rfl) ?_
                                refine TL_nil ?_
                                refine T_keepH [4, 5] [11, 16, 17, 27] rfl rfl rfl rfl (by rw [hF]; rfl) ?_
                                refine T_deepen 27 (p' := false) (List.map a_i64 (r159 ++ [x189])) (by rw [hF]; rfl) rfl (ElR.map (f := a_i64) (g := a_i64) (fun _ => ⟨⟨rfl, rfl⟩, trivial⟩) (r159 ++ [x189])) rfl rfl rfl ?_
                                refine T_ren [(11, 11), (16, 1000), (17, 1001), (27, 1002)] rfl rfl rfl (by rw [hF]; rfl) ?_
                                refine T_ret ?_
                                obtain rfl := someI hm
                                refine ⟨[_, _], [1000, 1001, 1002], ⟨⟨_, _, rfl, rfl, .inr ⟨ag35, _, _, sz35, rfl, rfl⟩⟩, rfl, trivial⟩, ?_, rfl, rfl, rfl, rfl⟩
                                rfl
                              · refine ⟨_, rfl, ?_⟩
                                refine TL_pure rfl rfl rfl rfl (op_load_one ag26 rfl rfl) ?_
                                refine TL_nil ?_
                                refine TZ_pure 9 (by kernel_rfl) rfl rfl rfl rfl rfl (op_indexT el26 rfl rfl hx189 rfl) ?_
                                refine TZ_each [1, 10] (by kernel_rfl) rfl ?_
                                refine ⟨?_, ?_⟩
                                · refine ⟨_, rfl, ?_⟩
                                  refine TL_pure rfl rfl rfl rfl (op_load_one ag26 rfl rfl) ?_
                                  refine TL_nil ?_
                                  refine TZ_one 10 (by kernel_rfl) rfl ?_
                                  refine TL_pure rfl rfl rfl rfl (op_load_one ag2 rfl rfl) ?_
                                  refine TL_nil ?_
                                  refine TZ_one 11 (by kernel_rfl) rfl ?_
                                  refine TL_buildSlice 37 (es := List.map a_i64 [x189]) el26 z2 rfl rfl rfl rfl rfl rfl rfl rfl rfl ?_
                                  refine TL_nil ?_
                                  refine TZ_one 12 (by kernel_rfl) rfl ?_
                                  refine TL_undeep 27 (p' := false) (by rw [hF]; rfl) rfl (ElR.map (f := a_i64) (g := a_i64) (fun _ => ⟨⟨rfl, rfl⟩, trivial⟩) r159) rfl ?_
                                  refine TL_appendT (f := a_i64) (a := r159) (b := [x189]) el26 z2 rfl rfl rfl rfl rfl rfl rfl (capI_spec hq192) rfl rfl rfl rfl rfl ?_
                                  refine TL_nil ?_
                                  refine TZ_pure 13 (by kernel_rfl) rfl rfl rfl rfl rfl (op_fieldAddr fa35_1 rfl rfl) ?_
                                  refine TZ_one 14 (by kernel_rfl) rfl ?_
                                  refine TL_store_box sz26 rfl rfl rfl rfl rfl rfl rfl rfl rfl ?_
                                  refine TL_nil ?_
                                  refine TZ_done (by kernel_rfl) ?_
                                  refine T_seq ?_
                                  refine T_region ?_
                                  refine TL_pure rfl rfl rfl rfl (op_load_agg ag35 sz35 rfl rfl rfl) ?_
                                  refine TL_store_box sz35 rfl rfl rfl rfl rfl rfl rfl rfl rfl ?_
                                  refine TL_pure rfl rfl rfl rfl (op_assign rfl) ?_
                                  refine TL_nil ?_
                                  refine T_keepH [4, 5] [11, 16, 17, 27] rfl rfl rfl rfl (by rw [hF]; rfl) ?_
                                  refine T_deepen 27 (p' := false) (List.map a_i64 (r159 ++ [x189])) (by rw [hF]; rfl) rfl (ElR.map (f := a_i64) (g := a_i64) (fun _ => ⟨⟨rfl, rfl⟩, trivial⟩) (r159 ++ [x189])) rfl rfl rfl ?_
                                  refine T_ren [(11, 11), (16, 1000), (17, 1001), (27, 1002)] rfl rfl rfl (by rw [hF]; rfl) ?_
                                  refine T_ret ?_
                                  obtain rfl := someI hm
                                  refine ⟨[_, _], [1000, 1001, 1002], ⟨⟨_, _, rfl, rfl, .inr ⟨ag35, _, _, sz35, rfl, rfl⟩⟩, rfl, trivial⟩, ?_, rfl, rfl, rfl, rfl⟩
                                  rfl
                                · refine ⟨_, rfl, ?_⟩
                                  refine TL_pure rfl rfl rfl rfl (op_load_one ag2 rfl rfl) ?_
                                  refine TL_nil ?_
                                  refine TZ_each [1, 11] (by kernel_rfl) rfl ?_
                                  refine ⟨?_, ?_⟩
                                  · refine ⟨_, rfl, ?_⟩
                                    refine TL_pure rfl rfl rfl rfl (op_load_one ag26 rfl rfl) ?_
                                    refine TL_nil ?_
                                    refine TZ_one 11 (by kernel_rfl) rfl ?_
                                    refine TL_buildSlice 39 (es := List.map a_i64 [x189]) el26 z2 rfl rfl rfl rfl rfl rfl rfl rfl rfl ?_
                                    refine TL_nil ?_
                                    refine TZ_one 12 (by kernel_rfl) rfl ?_
                                    refine TL_undeep 27 (p' := false) (by rw [hF]; rfl) rfl (ElR.map (f := a_i64) (g := a_i64) (fun _ => ⟨⟨rfl, rfl⟩, trivial⟩) r159) rfl ?_
                                    refine TL_appendT (f := a_i64) (a := r159) (b := [x189]) el26 z2 rfl rfl rfl rfl rfl rfl rfl (capI_spec hq192) rfl rfl rfl rfl rfl ?_
                                    refine TL_nil ?_
                                    refine TZ_pure 13 (by kernel_rfl) rfl rfl rfl rfl rfl (op_fieldAddr fa35_1 rfl rfl) ?_
                                    refine TZ_one 14 (by kernel_rfl) rfl ?_
                                    refine TL_store_box sz26 rfl rfl rfl rfl rfl rfl rfl rfl rfl ?_
                                    refine TL_nil ?_
                                    refine TZ_done (by kernel_rfl) ?_
                                    refine T_seq ?_
                                    refine T_region ?_
                                    refine TL_pure rfl rfl rfl rfl (op_load_agg ag35 sz35 rfl rfl rfl) ?_
                                    refine TL_store_box sz35 rfl rfl rfl rfl rfl rfl rfl rfl rfl ?_
                                    refine TL_pure rfl rfl rfl rfl (op_assign rfl) ?_
                                    refine TL_nil ?_
                                    refine T_keepH [4, 5] [11, 16, 17, 27] rfl rfl rfl rfl (by rw [hF]; rfl) ?_
                                    refine T_deepen 27 (p' := false) (List.map a_i64 (r159 ++ [x189])) (by rw [hF]; rfl) rfl (ElR.map (f := a_i64) (g := a_i64) (fun _ => ⟨⟨rfl, rfl⟩, trivial⟩) (r159 ++ [x189])) rfl rfl rfl ?_
                                    refine T_ren [(11, 11), (16, 1000), (17, 1001), (27, 1002)] rfl rfl rfl (by rw [hF]; rfl) ?_
                                    refine T_ret ?_
                                    obtain rfl := someI hm
                                    refine ⟨[_, _], [1000, 1001, 1002], ⟨⟨_, _, rfl, rfl, .inr ⟨ag35, _, _, sz35, rfl, rfl⟩⟩, rfl, trivial⟩, ?_, rfl, rfl, rfl, rfl⟩
                                    rfl
                                  · refine ⟨_, rfl, ?_⟩
                                    refine TL_buildSlice 38 (es := List.map a_i64 [x189]) el26 z2 rfl rfl rfl rfl rfl rfl rfl rfl rfl ?_
                                    refine TL_nil ?_
                                    refine TZ_pure 1 (by kernel_rfl) rfl rfl rfl rfl rfl (op_load_one ag26 rfl rfl) ?_
                                    refine TZ_one 12 (by kernel_rfl) rfl ?_
                                    refine TL_undeep 27 (p' := false) (by rw [hF]; rfl) rfl (ElR.map (f := a_i64) (g := a_i64) (fun _ => ⟨⟨rfl, rfl⟩, trivial⟩) r159) rfl ?_
                                    refine TL_appendT (f := a_i64) (a := r159) (b := [x189]) el26 z2 rfl rfl rfl rfl rfl rfl rfl (capI_spec hq192) rfl rfl rfl rfl rfl ?_
                                    refine TL_nil ?_
                                    refine TZ_pure 13 (by kernel_rfl) rfl rfl rfl rfl rfl (op_fieldAddr fa35_1 rfl rfl) ?_
                                    refine TZ_one 14 (by kernel_rfl) rfl ?_
                                    refine TL_store_box sz26 rfl rfl rfl rfl rfl rfl rfl rfl rfl ?_
                                    refine TL_nil ?_
                                    refine TZ_done (by kernel_rfl) ?_
                                    refine T_seq ?_
                                    refine T_region ?_
                                    refine TL_pure rfl rfl rfl rfl (op_load_agg ag35 sz35 rfl rfl rfl) ?_
                                    refine TL_store_box sz35 rfl rfl rfl rfl rfl rfl rfl rfl rfl ?_
                                    refine TL_pure rfl rfl rfl rfl (op_assign rfl) ?_
                                    refine TL_nil ?_
                                    refine T_keepH [4, 5] [11, 16, 17, 27] rfl rfl rfl rfl (by rw [hF]; rfl) ?_
                                    refine T_deepen 27 (p' := false) (List.map a_i64 (r159 ++ [x189])) (by rw [hF]; rfl) rfl (ElR.map (f := a_i64) (g := a_i64) (fun _ => ⟨⟨rfl, rfl⟩, trivial⟩) (r159 ++ [x189])) rfl rfl rfl ?_
                                    refine T_ren [(11, 11), (16, 1000), (17, 1001), (27, 1002)] rfl rfl rfl (by rw [hF]; rfl) ?_
                                    refine T_ret ?_
                                    obtain rfl := someI hm
                                    refine ⟨[_, _], [1000, 1001, 1002], ⟨⟨_, _, rfl, rfl, .inr ⟨ag35, _, _, sz35, rfl, rfl⟩⟩, rfl, trivial⟩, ?_, rfl, rfl, rfl, rfl⟩
                                    rfl
                          · replace hm := condF hq hm
                            refine T_seq ?_
                            refine T_region ?_
                            refine TL_pure rfl rfl rfl rfl (op_eql rfl rfl) ?_
                            refine TL_pure rfl rfl rfl rfl (op_assign rfl) ?_
                            refine TL_nil ?_
                            refine T_cond rfl (fun hq => ?_) (fun hq => ?_)
                            · replace hm := condT hq hm
                              refine T_region ?_
                              refine TL_pure rfl rfl rfl rfl (op_fieldAddr fa35_0 rfl rfl) ?_
                              refine TL_pure rfl rfl rfl rfl (op_fieldAddr fa28_0 rfl rfl) ?_
                              refine TL_pure rfl rfl rfl rfl (op_load_one ag26 rfl rfl) ?_
                              refine TL_pure rfl rfl rfl rfl (op_fieldAddr fa40_1 rfl rfl) ?_
                              refine TL_pure rfl rfl rfl rfl (op_load_one ag2 rfl rfl) ?_
                              refine TL_pure rfl rfl rfl rfl (op_move rfl) ?_
                              obtain ⟨x202, hx202, hm⟩ := bindS hm
                              refine TL_pure rfl rfl rfl rfl (op_indexO el26 rfl rfl rfl hx202) ?_
                              refine TL_storeFT sz2 rfl rfl ((getI_spec hx202).2) (v' := j1) rfl rfl rfl rfl rfl rfl rfl rfl rfl ?_
                              refine TL_nil ?_
                              refine T_seq ?_
                              refine T_region ?_
                              refine TL_pure rfl rfl rfl rfl (op_load_agg ag35 sz35 rfl rfl rfl) ?_
                              refine TL_store_box sz35 rfl rfl rfl rfl rfl rfl rfl rfl rfl ?_
                              refine TL_pure rfl rfl rfl rfl (op_assign rfl) ?_
                              refine TL_nil ?_
                              refine T_keepH [4, 5] [11, 16, 17, 27] rfl rfl rfl rfl (by rw [hF]; rfl) ?_
                              refine T_ren [(11, 11), (16, 1000), (17, 1001), (27, 1002)] rfl rfl rfl (by rw [hF]; rfl) ?_
                              refine T_ret ?_
                              obtain rfl := someI hm
                              refine ⟨[_, _], [1000, 1001, 1002], ⟨⟨_, _, rfl, rfl, .inr ⟨ag35, _, _, sz35, rfl, rfl⟩⟩, rfl, trivial⟩, ?_, rfl, rfl, rfl, rfl⟩
                              rfl
                            · replace hm := condF hq hm
                              refine T_seq ?_
                              refine T_region ?_
                              refine TL_pure rfl rfl rfl rfl (op_eql rfl rfl) ?_
                              refine TL_pure rfl rfl rfl rfl (op_assign rfl) ?_
                              refine TL_nil ?_
                              refine T_cond rfl (fun hq => ?_) (fun hq => ?_)
                              · replace hm := condT hq hm
                                refine T_region ?_
                                refine TL_pure rfl rfl rfl rfl (op_fieldAddr fa35_1 rfl rfl) ?_
                                refine TL_pure rfl rfl rfl rfl (op_load_one ag26 rfl rfl) ?_
                                refine TL_pure rfl rfl rfl rfl (op_move rfl) ?_
                                refine TL_pure rfl rfl rfl rfl (op_move rfl) ?_
                                refine TL_pure rfl rfl rfl rfl (op_addW rfl rfl) ?_
                                refine TL_buildSlice 40 (es := List.map a_i64 [(w64 (j1 + j2))]) el26 z2 rfl rfl rfl rfl rfl rfl rfl rfl rfl ?_
                                refine TL_undeep 27 (p' := false) (by rw [hF]; rfl) rfl (ElR.map (f := a_i64) (g := a_i64) (fun _ => ⟨⟨rfl, rfl⟩, trivial⟩) r159) rfl ?_
                                obtain ⟨q211, hq211, hm⟩ := bindS hm
                                refine TL_appendT (f := a_i64) (a := r159) (b := [(w64 (j1 + j2))]) el26 z2 rfl rfl rfl rfl rfl rfl rfl (capI_spec hq211) rfl rfl rfl rfl rfl ?_
                                refine TL_pure rfl rfl rfl rfl (op_fieldAddr fa35_1 rfl rfl) ?_
                                refine TL_store_box sz26 rfl rfl rfl rfl rfl rfl rfl rfl rfl ?_
                                refine TL_nil ?_
                                refine T_seq ?_
                                refine T_region ?_
                                refine TL_pure rfl rfl rfl rfl (op_load_agg ag35 sz35 rfl rfl rfl) ?_
                                refine TL_store_box sz35 rfl rfl rfl rfl rfl rfl rfl rfl rfl ?_
                                refine TL_pure rfl rfl rfl rfl (op_assign rfl) ?_
                                refine TL_nil ?_
                                refine T_keepH [4, 5] [11, 16, 17, 27] rfl rfl rfl rfl (by rw [hF]; rfl) ?_
                                refine T_deepen 27 (p' := false) (List.map a_i64 (r159 ++ [(w64 (j1 + j2))])) (by rw [hF]; rfl) rfl (ElR.map (f := a_i64) (g := a_i64) (fun _ => ⟨⟨rfl, rfl⟩, trivial⟩) (r159 ++ [(w64 (j1 + j2))])) rfl rfl rfl ?_
                                refine T_ren [(11, 11), (16, 1000), (17, 1001), (27, 1002)] rfl rfl rfl (by rw [hF]; rfl) ?_
                                refine T_ret ?_
                                obtain rfl := someI hm
                                refine ⟨[_, _], [1000, 1001, 1002], ⟨⟨_, _, rfl, rfl, .inr ⟨ag35, _, _, sz35, rfl, rfl⟩⟩, rfl, trivial⟩, ?_, rfl, rfl, rfl, rfl⟩
                                rfl
                              · replace hm := condF hq hm
                                refine T_seq ?_
                                refine T_region ?_
                                refine TL_pure rfl rfl rfl rfl (op_eql rfl rfl) ?_
                                refine TL_pure rfl rfl rfl rfl (op_assign rfl) ?_
                                refine TL_nil ?_
                                refine T_cond rfl (fun hq => ?_) (fun hq => ?_)
                                · replace hm := condT hq hm
                                  refine T_region ?_
                                  refine TL_pure rfl rfl rfl rfl (op_fieldAddr fa35_1 rfl rfl) ?_
                                  refine TL_pure rfl rfl rfl rfl (op_load_one ag26 rfl rfl) ?_
                                  refine TL_pure rfl rfl rfl rfl (op_move rfl) ?_
                                  refine TL_pure rfl rfl rfl rfl (op_fieldAddr fa40_1 rfl rfl) ?_
                                  refine TL_pure rfl rfl rfl rfl (op_load_one ag2 rfl rfl) ?_
                                  refine TL_pure rfl rfl rfl rfl (op_mulW rfl rfl) ?_
                                  refine TL_buildSlice 41 (es := List.map a_i64 [(w64 (j1 * x39.Arg))]) el26 z2 rfl rfl rfl rfl rfl rfl rfl rfl rfl ?_
                                  refine TL_undeep 27 (p' := false) (by rw [hF]; rfl) rfl (ElR.map (f := a_i64) (g := a_i64) (fun _ => ⟨⟨rfl, rfl⟩, trivial⟩) r159) rfl ?_
                                  obtain ⟨q222, hq222, hm⟩ := bindS hm
                                  refine TL_appendT (f := a_i64) (a := r159) (b := [(w64 (j1 * x39.Arg))]) el26 z2 rfl rfl rfl rfl rfl rfl rfl (capI_spec hq222) rfl rfl rfl rfl rfl ?_
                                  refine TL_pure rfl rfl rfl rfl (op_fieldAddr fa35_1 rfl rfl) ?_
                                  refine TL_store_box sz26 rfl rfl rfl rfl rfl rfl rfl rfl rfl ?_
                                  refine TL_nil ?_
                                  refine T_seq ?_
                                  refine T_region ?_
                                  refine TL_pure rfl rfl rfl rfl (op_load_agg ag35 sz35 rfl rfl rfl) ?_
                                  refine TL_store_box sz35 rfl rfl rfl rfl rfl rfl rfl rfl rfl ?_
                                  refine TL_pure rfl rfl rfl rfl (op_assign rfl) ?_
                                  refine TL_nil ?_
                                  refine T_keepH [4, 5] [11, 16, 17, 27] rfl rfl rfl rfl (by rw [hF]; rfl) ?_
                                  refine T_deepen 27 (p' := false) (List.map a_i64 (r159 ++ [(w64 (j1 * x39.Arg))])) (by rw [hF]; rfl) rfl (ElR.map (f := a_i64) (g := a_i64) (fun _ => ⟨⟨rfl, rfl⟩, trivial⟩) (r159 ++ [(w64 (j1 * x39.Arg))])) rfl rfl rfl ?_
                                  refine T_ren [(11, 11), (16, 1000), (17, 1001), (27, 1002)] rfl rfl rfl (by rw [hF]; rfl) ?_
                                  refine T_ret ?_
                                  obtain rfl := someI hm
                                  refine ⟨[_, _], [1000, 1001, 1002], ⟨⟨_, _, rfl, rfl, .inr ⟨ag35, _, _, sz35, rfl, rfl⟩⟩, rfl, trivial⟩, ?_, rfl, rfl, rfl, rfl⟩
                                  rfl
                                · replace hm := condF hq hm
                                  refine T_seq ?_
                                  refine T_region ?_
                                  refine TL_pure rfl rfl rfl rfl (op_eql rfl rfl) ?_
                                  refine TL_pure rfl rfl rfl rfl (op_assign rfl) ?_
                                  refine TL_nil ?_
                                  refine T_cond rfl (fun hq => ?_) (fun hq => ?_)
                                  · replace hm := condT hq hm
                                    refine T_region ?_
                                    refine TL_pure rfl rfl rfl rfl (op_fieldAddr fa40_1 rfl rfl) ?_
                                    refine TL_pure rfl rfl rfl rfl (op_load_one ag2 rfl rfl) ?_
                                    refine TL_pure rfl rfl rfl rfl (op_fieldAddr fa35_2 rfl rfl) ?_
                                    refine TL_store_box sz2 rfl rfl rfl rfl rfl rfl rfl rfl rfl ?_
                                    refine TL_nil ?_
                                    refine T_seq ?_
                                    refine T_region ?_
                                    refine TL_pure rfl rfl rfl rfl (op_load_agg ag35 sz35 rfl rfl rfl) ?_
                                    refine TL_store_box sz35 rfl rfl rfl rfl rfl rfl rfl rfl rfl ?_
                                    refine TL_pure rfl rfl rfl rfl (op_assign rfl) ?_
                                    refine TL_nil ?_
                                    refine T_keepH [4, 5] [11, 16, 17, 27] rfl rfl rfl rfl (by rw [hF]; rfl) ?_
                                    refine T_ren [(11, 11), (16, 1000), (17, 1001), (27, 1002)] rfl rfl rfl (by rw [hF]; rfl) ?_
                                    refine T_ret ?_
                                    obtain rfl := someI hm
                                    refine ⟨[_, _], [1000, 1001, 1002], ⟨⟨_, _, rfl, rfl, .inr ⟨ag35, _, _, sz35, rfl, rfl⟩⟩, rfl, trivial⟩, ?_, rfl, rfl, rfl, rfl⟩
                                    rfl
                                  · replace hm := condF hq hm
                                    refine T_seq ?_
                                    refine T_region ?_
                                    refine TL_pure rfl rfl rfl rfl (op_eql rfl rfl) ?_
                                    refine TL_pure rfl rfl rfl rfl (op_assign rfl) ?_
                                    refine TL_nil ?_
                                    refine T_cond rfl (fun hq => ?_) (fun hq => ?_)
                                    · replace hm := condT hq hm
                                      refine T_seq ?_
                                      refine T_region ?_
                                      refine TL_pure rfl rfl rfl rfl (op_move rfl) ?_
                                      refine TL_pure rfl rfl rfl rfl (op_lss rfl rfl) ?_
                                      refine TL_nil ?_
                                      refine T_cond rfl (fun hq => ?_) (fun hq => ?_)
                                      · replace hm := condT hq hm
                                        refine T_region ?_
                                        refine TL_pure rfl rfl rfl rfl (op_fieldAddr fa40_1 rfl rfl) ?_
                                        refine TL_pure rfl rfl rfl rfl (op_load_one ag2 rfl rfl) ?_
                                        refine TL_pure rfl rfl rfl rfl (op_fieldAddr fa35_2 rfl rfl) ?_
                                        refine TL_store_box sz2 rfl rfl rfl rfl rfl rfl rfl rfl rfl ?_
                                        refine TL_nil ?_
                                        refine T_seq ?_
                                        refine T_region ?_
                                        refine TL_pure rfl rfl rfl rfl (op_load_agg ag35 sz35 rfl rfl rfl) ?_
                                        refine TL_store_box sz35 rfl rfl rfl rfl rfl rfl rfl rfl rfl ?_
                                        refine TL_pure rfl rfl rfl rfl (op_assign rfl) ?_
                                        refine TL_nil ?_
                                        refine T_keepH [4, 5] [11, 16, 17, 27] rfl rfl rfl rfl (by rw [hF]; rfl) ?_
                                        refine T_ren [(11, 11), (16, 1000), (17, 1001), (27, 1002)] rfl rfl rfl (by rw [hF]; rfl) ?_
                                        refine T_ret ?_
                                        obtain rfl := someI hm
                                        refine ⟨[_, _], [1000, 1001, 1002], ⟨⟨_, _, rfl, rfl, .inr ⟨ag35, _, _, sz35, rfl, rfl⟩⟩, rfl, trivial⟩, ?_, rfl, rfl, rfl, rfl⟩
                                        rfl
                                      · replace hm := condF hq hm
                                        refine T_skip ?_
                                        refine T_seq ?_
                                        refine T_region ?_
                                        refine TL_pure rfl rfl rfl rfl (op_load_agg ag35 sz35 rfl rfl rfl) ?_
                                        refine TL_store_box sz35 rfl rfl rfl rfl rfl rfl rfl rfl rfl ?_
                                        refine TL_pure rfl rfl rfl rfl (op_assign rfl) ?_
                                        refine TL_nil ?_
                                        refine T_keepH [4, 5] [11, 16, 17, 27] rfl rfl rfl rfl (by rw [hF]; rfl) ?_
                                        refine T_ren [(11, 11), (16, 1000), (17, 1001), (27, 1002)] rfl rfl rfl (by rw [hF]; rfl) ?_
                                        refine T_ret ?_
                                        obtain rfl := someI hm
                                        refine ⟨[_, _], [1000, 1001, 1002], ⟨⟨_, _, rfl, rfl, .inr ⟨ag35, _, _, sz35, rfl, rfl⟩⟩, rfl, trivial⟩, ?_, rfl, rfl, rfl, rfl⟩
                                        rfl
                                    · replace hm := condF hq hm
                                      refine T_seq ?_
                                      refine T_region ?_
                                      refine TL_pure rfl rfl rfl rfl (op_eql rfl rfl) ?_
                                      refine TL_pure rfl rfl rfl rfl (op_assign rfl) ?_
                                      refine TL_nil ?_
                                      refine T_cond rfl (fun hq => ?_) (fun hq => ?_)
                                      · replace hm := condT hq hm
                                        refine T_drawZ [10, 11, 13] mix (by kernel_rfl) rfl ?_
                                        obtain ⟨x246, hx246, hm⟩ := bindS hm
                                        obtain ⟨q249, hq249, hm⟩ := bindS hm
                                        refine TZ_pure 0 (by kernel_rfl) rfl rfl rfl rfl rfl (op_fieldAddr fa35_1 rfl rfl) ?_
                                        refine TZ_pure 2 (by kernel_rfl) rfl rfl rfl rfl rfl (op_move rfl) ?_
                                        refine TZ_pure 3 (by kernel_rfl) rfl rfl rfl rfl rfl (op_nilCheck rfl rfl) ?_
                                        refine TZ_pure 4 (by kernel_rfl) rfl rfl rfl rfl rfl (op_fieldAddrC (n := 2) fa35_0 rfl rfl rfl) ?_
                                        refine TZ_pure 5 (by kernel_rfl) rfl rfl rfl rfl rfl (op_fieldAddr fa28_1 rfl rfl) ?_
                                        refine TZ_pure 7 (by kernel_rfl) rfl rfl rfl rfl rfl (op_move rfl) ?_
                                        refine TZ_each [1, 6] (by kernel_rfl) rfl ?_
                                        refine ⟨?_, ?_⟩
                                        · refine ⟨_, rfl, ?_⟩
                                          refine TL_pure rfl rfl rfl rfl (op_load_one ag26 rfl rfl) ?_
                                          refine TL_nil ?_
                                          refine TZ_one 6 (by kernel_rfl) rfl ?_
                                          refine TL_pure rfl rfl rfl rfl (op_load_one ag26 rfl rfl) ?_
                                          refine TL_nil ?_
                                          refine TZ_pure 8 (by kernel_rfl) rfl rfl rfl rfl rfl (op_indexT el26 rfl rfl hx246 rfl) ?_
                                          refine TZ_one 9 (by kernel_rfl) rfl ?_
                                          refine TL_pure rfl rfl rfl rfl (op_load_one ag2 rfl rfl) ?_
                                          refine TL_nil ?_
                                          refine TZ_one 10 (by kernel_rfl) rfl ?_
                                          refine TL_buildSlice 43 (es := List.map a_i64 [x246]) el26 z2 rfl rfl rfl rfl rfl rfl rfl rfl rfl ?_
                                          refine TL_nil ?_
                                          refine TZ_one 11 (by kernel_rfl) rfl ?_
                                          refine TL_undeep 27 (p' := false) (by rw [hF]; rfl) rfl (ElR.map (f := a_i64) (g := a_i64) (fun _ => ⟨⟨rfl, rfl⟩, trivial⟩) r159) rfl ?_
                                          refine TL_appendT (f := a_i64) (a := r159) (b := [x246]) el26 z2 rfl rfl rfl rfl rfl rfl rfl (capI_spec hq249) rfl rfl rfl rfl rfl ?_
                                          refine TL_nil ?_
                                          refine TZ_pure 12 (by kernel_rfl) rfl rfl rfl rfl rfl (op_fieldAddr fa35_1 rfl rfl) ?_
                                          refine TZ_one 13 (by kernel_rfl) rfl ?_
                                          refine TL_store_box sz26 rfl rfl rfl rfl rfl rfl rfl rfl rfl ?_
                                          refine TL_nil ?_
                                          refine TZ_done (by kernel_rfl) ?_
                                          refine T_seq ?_
                                          refine T_region ?_
                                          refine TL_pure rfl rfl rfl rfl (op_load_agg ag35 sz35 rfl rfl rfl) ?_
                                          refine TL_store_box sz35 rfl rfl rfl rfl rfl rfl rfl rfl rfl ?_
                                          refine TL_pure rfl rfl rfl rfl (op_assign rfl) ?_
                                          refine TL_nil ?_
                                          refine T_keepH [4, 5] [11, 16, 17, 27] rfl rfl rfl rfl (by rw [hF]; rfl) ?_
                                          refine T_deepen 27 (p' := false) (List.map a_i64 (r159 ++ [x246])) (by rw [hF]; rfl) rfl (ElR.map (f := a_i64) (g := a_i64) (fun _ => ⟨⟨rfl, rfl⟩, trivial⟩) (r159 ++ [x246])) rfl rfl rfl ?_
                                          refine T_ren [(11, 11), (16, 1000), (17, 1001), (27, 1002)] rfl rfl rfl (by rw [hF]; rfl) ?_
                                          refine T_ret ?_
                                          obtain rfl := someI hm
                                          refine ⟨[_, _], [1000, 1001, 1002], ⟨⟨_, _, rfl, rfl, .inr ⟨ag35, _, _, sz35, rfl, rfl⟩⟩, rfl, trivial⟩, ?_, rfl, rfl, rfl, rfl⟩
                                          rfl
                                        · refine ⟨_, rfl, ?_⟩
                                          refine TL_pure rfl rfl rfl rfl (op_load_one ag26 rfl rfl) ?_
                                          refine TL_nil ?_
                                          refine TZ_pure 8 (by kernel_rfl) rfl rfl rfl rfl rfl (op_indexT el26 rfl rfl hx246 rfl) ?_
                                          refine TZ_each [1, 9] (by kernel_rfl) rfl ?_
                                          refine ⟨?_, ?_⟩
                                          · refine ⟨_, rfl, ?_⟩
                                            refine TL_pure rfl rfl rfl rfl (op_load_one ag26 rfl rfl) ?_
                                            refine TL_nil ?_
                                            refine TZ_one 9 (by kernel_rfl) rfl ?_
                                            refine TL_pure rfl rfl rfl rfl (op_load_one ag2 rfl rfl) ?_
                                            refine TL_nil ?_
                                            refine TZ_one 10 (by kernel_rfl) rfl ?_
                                            refine TL_buildSlice 44 (es := List.map a_i64 [x246]) el26 z2 rfl rfl rfl rfl rfl rfl rfl rfl rfl ?_
                                            refine TL_nil ?_
                                            refine TZ_one 11 (by kernel_rfl) rfl ?_
                                            refine TL_undeep 27 (p' := false) (by rw [hF]; rfl) rfl (ElR.map (f := a_i64) (g := a_i64) (fun _ => ⟨⟨rfl, rfl⟩, trivial⟩) r159) rfl ?_
                                            refine TL_appendT (f := a_i64) (a := r159) (b := [x246]) el26 z2 rfl rfl rfl rfl rfl rfl rfl (capI_spec hq249) rfl rfl rfl rfl rfl ?_
                                            refine TL_nil ?_
                                            refine TZ_pure 12 (by kernel_rfl) rfl rfl rfl rfl rfl (op_fieldAddr fa35_1 rfl rfl) ?_
                                            refine TZ_one 13 (by kernel_rfl) rfl ?_
                                            refine TL_store_box sz26 rfl rfl rfl rfl rfl rfl rfl rfl rfl ?_
                                            refine TL_nil ?_
                                            refine TZ_done (by kernel_rfl) ?_
                                            refine T_seq ?_
                                            refine T_region ?_
                                            refine TL_pure rfl rfl rfl rfl (op_load_agg ag35 sz35 rfl rfl rfl) ?_
                                            refine TL_store_box sz35 rfl rfl rfl rfl rfl rfl rfl rfl rfl ?_
                                            refine TL_pure rfl rfl rfl rfl (op_assign rfl) ?_
                                            refine TL_nil ?_
                                            refine T_keepH [4, 5] [11, 16, 17, 27] rfl rfl rfl rfl (by rw [hF]; rfl) ?_
                                            refine T_deepen 27 (p' := false) (List.map a_i64 (r159 ++ [x246])) (by rw [hF]; rfl) rfl (ElR.map (f := a_i64) (g := a_i64) (fun _ => ⟨⟨rfl, rfl⟩, trivial⟩) (r159 ++ [x246])) rfl rfl rfl ?_
                                            refine T_ren [(11, 11), (16, 1000), (17, 1001), (27, 1002)] rfl rfl rfl (by rw [hF]; rfl) ?_
                                            refine T_ret ?_
                                            obtain rfl := someI hm
                                            refine ⟨[_, _], [1000, 1001, 1002], ⟨⟨_, _, rfl, rfl, .inr ⟨ag35, _, _, sz35, rfl, rfl⟩⟩, rfl, trivial⟩, ?_, rfl, rfl, rfl, rfl⟩
                                            rfl
                                          · refine ⟨_, rfl, ?_⟩
                                            refine TL_pure rfl rfl rfl rfl (op_load_one ag2 rfl rfl) ?_
                                            refine TL_nil ?_
                                            refine TZ_each [1, 10] (by kernel_rfl) rfl ?_
                                            refine ⟨?_, ?_⟩
                                            · refine ⟨_, rfl, ?_⟩
                                              refine TL_pure rfl rfl rfl rfl (op_load_one ag26 rfl rfl) ?_
                                              refine TL_nil ?_
                                              refine TZ_one 10 (by kernel_rfl) rfl ?_
                                              refine TL_buildSlice 46 (es := List.map a_i64 [x246]) el26 z2 rfl rfl rfl rfl rfl rfl rfl rfl rfl ?_
                                              refine TL_nil ?_
                                              refine TZ_one 11 (by kernel_rfl) rfl ?_
                                              refine TL_undeep 27 (p' := false) (by rw [hF]; rfl) rfl (ElR.map (f := a_i64) (g := a_i64) (fun _ => ⟨⟨rfl, rfl⟩, trivial⟩) r159) rfl ?_
                                              refine TL_appendT (f := a_i64) (a := r159) (b := [x246]) el26 z2 rfl rfl rfl rfl rfl rfl rfl (capI_spec hq249) rfl rfl rfl rfl rfl ?_
                                              refine TL_nil ?_
                                              refine TZ_pure 12 (by kernel_rfl) rfl rfl rfl rfl rfl (op_fieldAddr fa35_1 rfl rfl) ?_
                                              refine TZ_one 13 (by kernel_rfl) rfl ?_
                                              refine TL_store_box sz26 rfl rfl rfl rfl rfl rfl rfl rfl rfl ?_
                                              refine TL_nil ?_
                                              refine TZ_done (by kernel_rfl) ?_
                                              refine T_seq ?_
                                              refine T_region ?_
                                              refine TL_pure rfl rfl rfl rfl (op_load_agg ag35 sz35 rfl rfl rfl) ?_
                                              refine TL_store_box sz35 rfl rfl rfl rfl rfl rfl rfl rfl rfl ?_
                                              refine TL_pure rfl rfl rfl rfl (op_assign rfl) ?_
                                              refine TL_nil ?_
                                              refine T_keepH [4, 5] [11, 16, 17, 27] rfl rfl rfl rfl (by rw [hF]; rfl) ?_
                                              refine T_deepen 27 (p' := false) (List.map a_i64 (r159 ++ [x246])) (by rw [hF]; rfl) rfl (ElR.map (f := a_i64) (g := a_i64) (fun _ => ⟨⟨rfl, rfl⟩, trivial⟩) (r159 ++ [x246])) rfl rfl rfl ?_
                                              refine T_ren [(11, 11), (16, 1000), (17, 1001), (27, 1002)] rfl rfl rfl (by rw [hF]; rfl) ?_
                                              refine T_ret ?_
                                              obtain rfl := someI hm
                                              refine ⟨[_, _], [1000, 1001, 1002], ⟨⟨_, _, rfl, rfl, .inr ⟨ag35, _, _, sz35, rfl, rfl⟩⟩, rfl, trivial⟩, ?_, rfl, rfl, rfl, rfl⟩
                                              rfl
                                            · refine ⟨_, rfl, ?_⟩
                                              refine TL_buildSlice 45 (es := List.map a_i64 [x246]) el26 z2 rfl rfl rfl rfl rfl rfl rfl rfl rfl ?_
                                              refine TL_nil ?_
                                              refine TZ_pure 1 (by kernel_rfl) rfl rfl rfl rfl rfl (op_load_one ag26 rfl rfl) ?_
                                              refine TZ_one 11 (by kernel_rfl) rfl ?_
                                              refine TL_undeep 27 (p' := false) (by rw [hF]; rfl) rfl (ElR.map (f := a_i64) (g := a_i64) (fun _ => ⟨⟨rfl, rfl⟩, trivial⟩) r159) rfl ?_
                                              refine TL_appendT (f := a_i64) (a := r159) (b := [x246]) el26 z2 rfl rfl rfl rfl rfl rfl rfl (capI_spec hq249) rfl rfl rfl rfl rfl ?_
                                              refine TL_nil ?_
                                              refine TZ_pure 12 (by kernel_rfl) rfl rfl rfl rfl rfl (op_fieldAddr fa35_1 rfl rfl) ?_
                                              refine TZ_one 13 (by kernel_rfl) rfl ?_
                                              refine TL_store_box sz26 rfl rfl rfl rfl rfl rfl rfl rfl rfl ?_
                                              refine TL_nil ?_
                                              refine TZ_done (by kernel_rfl) ?_
                                              refine T_seq ?_
                                              refine T_region ?_
                                              refine TL_pure rfl rfl rfl rfl (op_load_agg ag35 sz35 rfl rfl rfl) ?_
                                              refine TL_store_box sz35 rfl rfl rfl rfl rfl rfl rfl rfl rfl ?_
                                              refine TL_pure rfl rfl rfl rfl (op_assign rfl) ?_
                                              refine TL_nil ?_
                                              refine T_keepH [4, 5] [11, 16, 17, 27] rfl rfl rfl rfl (by rw [hF]; rfl) ?_
                                              refine T_deepen 27 (p' := false) (List.map a_i64 (r159 ++ [x246])) (by rw [hF]; rfl) rfl (ElR.map (f := a_i64) (g := a_i64) (fun _ => ⟨⟨rfl, rfl⟩, trivial⟩) (r159 ++ [x246])) rfl rfl rfl ?_
                                              refine T_ren [(11, 11), (16, 1000), (17, 1001), (27, 1002)] rfl rfl rfl (by rw [hF]; rfl) ?_
                                              refine T_ret ?_
                                              obtain rfl := someI hm
                                              refine ⟨[_, _], [1000, 1001, 1002], ⟨⟨_, _, rfl, rfl, .inr ⟨ag35, _, _, sz35, rfl, rfl⟩⟩, rfl, trivial⟩, ?_, rfl, rfl, rfl, rfl⟩
                                              rfl
                                      · replace hm := condF hq hm
                                        refine T_seq ?_
                                        refine T_region ?_
                                        refine TL_pure rfl rfl rfl rfl (op_eql rfl rfl) ?_
                                        refine TL_pure rfl rfl rfl rfl (op_assign rfl) ?_
                                        refine TL_nil ?_
                                        refine T_cond rfl (fun hq => ?_) (fun hq => ?_)
                                        · replace hm := condT hq hm
                                          refine T_region ?_
                                          refine TL_pure rfl rfl rfl rfl (op_fieldAddr fa35_0 rfl rfl) ?_
                                          refine TL_pure rfl rfl rfl rfl (op_fieldAddr fa28_1 rfl rfl) ?_
                                          refine TL_pure rfl rfl rfl rfl (op_load_one ag26 rfl rfl) ?_
                                          refine TL_pure rfl rfl rfl rfl (op_move rfl) ?_
                                          refine TL_pure rfl rfl rfl rfl (op_move rfl) ?_
                                          obtain ⟨x258, hx258, hm⟩ := bindS hm
                                          refine TL_pure rfl rfl rfl rfl (op_indexO el26 rfl rfl rfl hx258) ?_
                                          refine TL_storeFT sz2 rfl rfl ((getI_spec hx258).2) (v' := j1) rfl rfl rfl rfl rfl rfl rfl rfl rfl ?_
                                          refine TL_nil ?_
                                          refine T_seq ?_
                                          refine T_region ?_
                                          refine TL_pure rfl rfl rfl rfl (op_load_agg ag35 sz35 rfl rfl rfl) ?_
                                          refine TL_store_box sz35 rfl rfl rfl rfl rfl rfl rfl rfl rfl ?_
                                          refine TL_pure rfl rfl rfl rfl (op_assign rfl) ?_
                                          refine TL_nil ?_
                                          refine T_keepH [4, 5] [11, 16, 17, 27] rfl rfl rfl rfl (by rw [hF]; rfl) ?_
                                          refine T_ren [(11, 11), (16, 1000), (17, 1001), (27, 1002)] rfl rfl rfl (by rw [hF]; rfl) ?_
                                          refine T_ret ?_
                                          obtain rfl := someI hm
                                          refine ⟨[_, _], [1000, 1001, 1002], ⟨⟨_, _, rfl, rfl, .inr ⟨ag35, _, _, sz35, rfl, rfl⟩⟩, rfl, trivial⟩, ?_, rfl, rfl, rfl, rfl⟩
                                          rfl
                                        · replace hm := condF hq hm
                                          refine T_skip ?_
                                          refine T_seq ?_
                                          refine T_region ?_
                                          refine TL_pure rfl rfl rfl rfl (op_load_agg ag35 sz35 rfl rfl rfl) ?_
                                          refine TL_store_box sz35 rfl rfl rfl rfl rfl rfl rfl rfl rfl ?_
                                          refine TL_pure rfl rfl rfl rfl (op_assign rfl) ?_
                                          refine TL_nil ?_
                                          refine T_keepH [4, 5] [11, 16, 17, 27] rfl rfl rfl rfl (by rw [hF]; rfl) ?_
                                          refine T_ren [(11, 11), (16, 1000), (17, 1001), (27, 1002)] rfl rfl rfl (by rw [hF]; rfl) ?_
                                          refine T_ret ?_
                                          obtain rfl := someI hm
                                          refine ⟨[_, _], [1000, 1001, 1002], ⟨⟨_, _, rfl, rfl, .inr ⟨ag35, _, _, sz35, rfl, rfl⟩⟩, rfl, trivial⟩, ?_, rfl, rfl, rfl, rfl⟩
                                          rfl
                    · refine TL_split 148 rfl rfl rfl (fun hq => ?_) (fun hq => ?_)
                      · refine TL_want rfl rfl ?_
                        refine TL_pure rfl rfl rfl rfl (op_move rfl) ?_
                        refine TL_want rfl rfl ?_
                        refine TL_pure rfl rfl rfl rfl (op_lss rfl rfl) ?_
                        refine TL_pure rfl rfl rfl rfl (op_pick_true rfl rfl) ?_
                        refine TL_keepH [1, 4, 6, 7, 9, 10, 11, 151] [11, 16, 17, 19, 21, 26] rfl rfl rfl rfl (by rw [hF]; rfl) ?_
                        exact TL_cast _ (by rw [hq]; rfl) (hjj () trivial)
                      · refine TL_pass rfl rfl rfl rfl rfl rfl rfl ?_
                        refine TL_pass rfl rfl rfl rfl rfl rfl rfl ?_
                        refine TL_pure rfl rfl rfl rfl (op_pick_false rfl rfl) ?_
                        refine TL_keepH [1, 4, 6, 7, 9, 10, 11, 151] [11, 16, 17, 19, 21, 26] rfl rfl rfl rfl (by rw [hF]; rfl) ?_
                        exact TL_cast _ (by rw [hq]; rfl) (hjj () trivial)
                  · refine T_seq ?_
                    refine T_region ?_
                    refine TL_pure rfl rfl rfl rfl (op_fieldAddr fa40_0 rfl rfl) ?_
                    refine TL_pure rfl rfl rfl rfl (op_load_one ag2 rfl rfl) ?_
                    refine TL_pure rfl rfl rfl rfl (op_eql rfl rfl) ?_
                    refine TL_pure rfl rfl rfl rfl (op_move rfl) ?_
                    refine TL_split 111 rfl rfl rfl (fun hq => ?_) (fun hq => ?_)
                    · replace hm := condT hq hm
                      refine TL_want rfl rfl ?_
                      refine TL_pure rfl rfl rfl rfl (op_move rfl) ?_
                      refine TL_want rfl rfl ?_
                      refine TL_pure rfl rfl rfl rfl (op_move rfl) ?_
                      refine TL_want rfl rfl ?_
                      refine TL_pure rfl rfl rfl rfl (op_addW rfl rfl) ?_
                      refine TL_want rfl rfl ?_
                      obtain ⟨r115, hr115, hm⟩ := bindS hm
                      refine TL_callF (c_spec_l07Wide (w64 (j1 + j2)) r115 hr115) Try.call136 rfl rfl rfl rfl rfl ?_
                      refine TL_want rfl rfl ?_
                      refine TL_pure rfl rfl rfl rfl (op_not rfl) ?_
                      refine TL_pure rfl rfl rfl rfl (op_pick_true rfl rfl) ?_
                      refine TL_pure rfl rfl rfl rfl (op_move rfl) ?_
                      refine TL_split 118 rfl rfl rfl (fun hq => ?_) (fun hq => ?_)
                      · replace hm := condT hq hm
                        refine TL_pass rfl rfl rfl rfl rfl rfl rfl ?_
                        refine TL_pass rfl rfl rfl rfl rfl rfl rfl ?_
                        refine TL_pass rfl rfl rfl rfl rfl rfl rfl ?_
                        refine TL_pass rfl rfl rfl rfl rfl rfl rfl ?_
                        refine TL_pass2 rfl rfl rfl rfl rfl rfl ?_
                        refine TL_pass2 rfl rfl rfl rfl rfl rfl ?_
                        refine TL_pass2 rfl rfl rfl rfl rfl rfl ?_
                        refine TL_pass2 rfl rfl rfl rfl rfl rfl ?_
                        refine TL_pass rfl rfl rfl rfl rfl rfl rfl ?_
                        refine TL_pure rfl rfl rfl rfl (op_pick_true rfl rfl) ?_
                        refine TL_pure rfl rfl rfl rfl (op_move rfl) ?_
                        refine TL_pass rfl rfl rfl rfl rfl rfl rfl ?_
                        refine TL_pass rfl rfl rfl rfl rfl rfl rfl ?_
                        refine TL_pass rfl rfl rfl rfl rfl rfl rfl ?_
                        refine TL_pass rfl rfl rfl rfl rfl rfl rfl ?_
                        refine TL_pass2 rfl rfl rfl rfl rfl rfl ?_
                        refine TL_pass2 rfl rfl rfl rfl rfl rfl ?_
                        refine TL_pass2 rfl rfl rfl rfl rfl rfl ?_
                        refine TL_pass rfl rfl rfl rfl rfl rfl rfl ?_
                        refine TL_pass rfl rfl rfl rfl rfl rfl rfl ?_
                        refine TL_pass2 rfl rfl rfl rfl rfl rfl ?_
                        refine TL_pass2 rfl rfl rfl rfl rfl rfl ?_
                        refine TL_pass2 rfl rfl rfl rfl rfl rfl ?_
                        refine TL_pass rfl rfl rfl rfl rfl rfl rfl ?_
                        refine TL_pure rfl rfl rfl rfl (op_pick_true rfl rfl) ?_
                        refine TL_nil ?_
                        refine T_cond_true rfl ?_
                        refine T_seq ?_
                        refine T_region ?_
                        refine TL_pure rfl rfl rfl rfl (op_load_agg ag35 sz35 rfl rfl rfl) ?_
                        refine TL_store_box sz35 rfl rfl rfl rfl rfl rfl rfl rfl rfl ?_
                        refine TL_pure rfl rfl rfl rfl (op_assign rfl) ?_
                        refine TL_nil ?_
                        refine T_keepH [4, 5] [11, 16, 17, 19] rfl rfl rfl rfl (by rw [hF]; rfl) ?_
                        refine T_ren [(11, 11), (16, 1000), (17, 1001), (19, 1002)] rfl rfl rfl (by rw [hF]; rfl) ?_
                        refine T_ret ?_
                        obtain rfl := someI hm
                        refine ⟨[_, _], [1000, 1001, 1002], ⟨⟨_, _, rfl, rfl, .inr ⟨ag35, _, _, sz35, rfl, rfl⟩⟩, rfl, trivial⟩, ?_, rfl, rfl, rfl, rfl⟩
                        rfl
                      · replace hm := condF hq hm
                        refine TL_want rfl rfl ?_
                        refine TL_pure rfl rfl rfl rfl (op_fieldAddr fa40_0 rfl rfl) ?_
                        refine TL_want rfl rfl ?_
                        refine TL_pure rfl rfl rfl rfl (op_load_one ag2 rfl rfl) ?_
                        refine TL_want rfl rfl ?_
                        refine TL_pure rfl rfl rfl rfl (op_eql rfl rfl) ?_
                        refine TL_want rfl rfl ?_
                        refine TL_pure rfl rfl rfl rfl (op_move rfl) ?_
                        refine TL_split 122 rfl rfl rfl (fun hq => ?_) (fun hq => ?_)
                        · replace hm := condT hq hm
                          refine TL_want rfl rfl ?_
                          refine TL_pure rfl rfl rfl rfl (op_move rfl) ?_
                          refine TL_want rfl rfl ?_
                          refine TL_pure rfl rfl rfl rfl (op_fieldAddr fa40_1 rfl rfl) ?_
                          refine TL_want rfl rfl ?_
                          refine TL_pure rfl rfl rfl rfl (op_load_one ag2 rfl rfl) ?_
                          refine TL_want rfl rfl ?_
                          obtain ⟨r126, hr126, hm⟩ := bindS hm
                          refine TL_callF (c_spec_l07Far j1 x39.Arg r126 hr126) Try.call141 rfl rfl rfl rfl rfl ?_
                          refine TL_want rfl rfl ?_
                          refine TL_pure rfl rfl rfl rfl (op_pick_true rfl rfl) ?_
                          refine TL_pure rfl rfl rfl rfl (op_pick_false rfl rfl) ?_
                          refine TL_pure rfl rfl rfl rfl (op_move rfl) ?_
                          refine TL_split 129 rfl rfl rfl (fun hq => ?_) (fun hq => ?_)
                          · replace hm := condT hq hm
                            refine TL_pass rfl rfl rfl rfl rfl rfl rfl ?_
                            refine TL_pass rfl rfl rfl rfl rfl rfl rfl ?_
                            refine TL_pass rfl rfl rfl rfl rfl rfl rfl ?_
                            refine TL_pass rfl rfl rfl rfl rfl rfl rfl ?_
                            refine TL_pass2 rfl rfl rfl rfl rfl rfl ?_
                            refine TL_pass2 rfl rfl rfl rfl rfl rfl ?_
                            refine TL_pass2 rfl rfl rfl rfl rfl rfl ?_
                            refine TL_pass rfl rfl rfl rfl rfl rfl rfl ?_
                            refine TL_pass rfl rfl rfl rfl rfl rfl rfl ?_
                            refine TL_pass2 rfl rfl rfl rfl rfl rfl ?_
                            refine TL_pass2 rfl rfl rfl rfl rfl rfl ?_
                            refine TL_pass2 rfl rfl rfl rfl rfl rfl ?_
                            refine TL_pass rfl rfl rfl rfl rfl rfl rfl ?_
                            refine TL_pure rfl rfl rfl rfl (op_pick_true rfl rfl) ?_
                            refine TL_nil ?_
                            refine T_cond_true rfl ?_
                            refine T_seq ?_
                            refine T_region ?_
                            refine TL_pure rfl rfl rfl rfl (op_load_agg ag35 sz35 rfl rfl rfl) ?_
                            refine TL_store_box sz35 rfl rfl rfl rfl rfl rfl rfl rfl rfl ?_
                            refine TL_pure rfl rfl rfl rfl (op_assign rfl) ?_
                            refine TL_nil ?_
                            refine T_keepH [4, 5] [11, 16, 17, 19] rfl rfl rfl rfl (by rw [hF]; rfl) ?_
                            refine T_ren [(11, 11), (16, 1000), (17, 1001), (19, 1002)] rfl rfl rfl (by rw [hF]; rfl) ?_
                            refine T_ret ?_
                            obtain rfl := someI hm
                            refine ⟨[_, _], [1000, 1001, 1002], ⟨⟨_, _, rfl, rfl, .inr ⟨ag35, _, _, sz35, rfl, rfl⟩⟩, rfl, trivial⟩, ?_, rfl, rfl, rfl, rfl⟩
                            rfl
                          · replace hm := condF hq hm
                            refine TL_want rfl rfl ?_
                            refine TL_pure rfl rfl rfl rfl (op_fieldAddr fa40_0 rfl rfl) ?_
                            refine TL_want rfl rfl ?_
                            refine TL_pure rfl rfl rfl rfl (op_load_one ag2 rfl rfl) ?_
                            refine TL_want rfl rfl ?_
                            refine TL_pure rfl rfl rfl rfl (op_eql rfl rfl) ?_
                            refine TL_want rfl rfl ?_
                            refine TL_pure rfl rfl rfl rfl (op_move rfl) ?_
                            refine TL_split 133 rfl rfl rfl (fun hq => ?_) (fun hq => ?_)
                            · replace hm := condT hq hm
                              refine TL_pass rfl rfl rfl rfl rfl rfl rfl ?_
                              refine TL_pass rfl rfl rfl rfl rfl rfl rfl ?_
                              refine TL_pass rfl rfl rfl rfl rfl rfl rfl ?_
                              refine TL_want rfl rfl ?_
                              refine TL_pure rfl rfl rfl rfl (op_pick_true rfl rfl) ?_
                              refine TL_want rfl rfl ?_
                              refine TL_pure rfl rfl rfl rfl (op_move rfl) ?_
                              refine TL_want rfl rfl ?_
                              refine TL_pure rfl rfl rfl rfl (op_move rfl) ?_
                              refine TL_want rfl rfl ?_
                              obtain ⟨r140, hr140, hm⟩ := bindS hm
                              refine TL_callF (c_spec_l03Int j1 r140 hr140) Try.call142 rfl rfl rfl rfl rfl ?_
                              refine TL_want rfl rfl ?_
                              refine TL_pure rfl rfl rfl rfl (op_not rfl) ?_
                              refine TL_want rfl rfl ?_
                              refine TL_pure rfl rfl rfl rfl (op_pick_true rfl rfl) ?_
                              refine TL_pure rfl rfl rfl rfl (op_pick_false rfl rfl) ?_
                              refine TL_nil ?_
                              refine T_cond rfl (fun hq => ?_) (fun hq => ?_)
                              · replace hm := condT hq hm
                                refine T_seq ?_
                                refine T_region ?_
                                refine TL_pure rfl rfl rfl rfl (op_load_agg ag35 sz35 rfl rfl rfl) ?_
                                refine TL_store_box sz35 rfl rfl rfl rfl rfl rfl rfl rfl rfl ?_
                                refine TL_pure rfl rfl rfl rfl (op_assign rfl) ?_
                                refine TL_nil ?_
                                refine T_keepH [4, 5] [11, 16, 17, 19] rfl rfl rfl rfl (by rw [hF]; rfl) ?_
                                refine T_ren [(11, 11), (16, 1000), (17, 1001), (19, 1002)] rfl rfl rfl (by rw [hF]; rfl) ?_
                                refine T_ret ?_
                                obtain rfl := someI hm
                                refine ⟨[_, _], [1000, 1001, 1002], ⟨⟨_, _, rfl, rfl, .inr ⟨ag35, _, _, sz35, rfl, rfl⟩⟩, rfl, trivial⟩, ?_, rfl, rfl, rfl, rfl⟩
                                rfl
                              · replace hm := condF hq hm
                                refine T_skip ?_
                                refine T_keepH [1, 4, 6, 7, 9, 10, 11] [11, 16, 17, 19, 21, 26] rfl rfl rfl rfl (by rw [hF]; rfl) ?_
                                exact hj4 () hm
                            · replace hm := condF hq hm
                              refine TL_want rfl rfl ?_
                              refine TL_pure rfl rfl rfl rfl (op_fieldAddr fa40_0 rfl rfl) ?_
                              refine TL_want rfl rfl ?_
                              refine TL_pure rfl rfl rfl rfl (op_load_one ag2 rfl rfl) ?_
                              refine TL_want rfl rfl ?_
                              refine TL_pure rfl rfl rfl rfl (op_eql rfl rfl) ?_
                              refine TL_want rfl rfl ?_
                              refine TL_pure rfl rfl rfl rfl (op_pick_false rfl rfl) ?_
                              refine TL_want rfl rfl ?_
                              refine TL_pure rfl rfl rfl rfl (op_move rfl) ?_
                              refine TL_split 138 rfl rfl rfl (fun hq => ?_) (fun hq => ?_)
                              · replace hm := condT hq hm
                                refine TL_want rfl rfl ?_
                                refine TL_pure rfl rfl rfl rfl (op_move rfl) ?_
                                refine TL_want rfl rfl ?_
                                obtain ⟨r140, hr140, hm⟩ := bindS hm
                                refine TL_callF (c_spec_l03Int j1 r140 hr140) Try.call142 rfl rfl rfl rfl rfl ?_
                                refine TL_want rfl rfl ?_
                                refine TL_pure rfl rfl rfl rfl (op_not rfl) ?_
                                refine TL_want rfl rfl ?_
                                refine TL_pure rfl rfl rfl rfl (op_pick_true rfl rfl) ?_
                                refine TL_pure rfl rfl rfl rfl (op_pick_false rfl rfl) ?_
                                refine TL_nil ?_
                                refine T_cond rfl (fun hq => ?_) (fun hq => ?_)
                                · replace hm := condT hq hm
                                  refine T_seq ?_
                                  refine T_region ?_
                                  refine TL_pure rfl rfl rfl rfl (op_load_agg ag35 sz35 rfl rfl rfl) ?_
                                  refine TL_store_box sz35 rfl rfl rfl rfl rfl rfl rfl rfl rfl ?_
                                  refine TL_pure rfl rfl rfl rfl (op_assign rfl) ?_
                                  refine TL_nil ?_
                                  refine T_keepH [4, 5] [11, 16, 17, 19] rfl rfl rfl rfl (by rw [hF]; rfl) ?_
                                  refine T_ren [(11, 11), (16, 1000), (17, 1001), (19, 1002)] rfl rfl rfl (by rw [hF]; rfl) ?_
                                  refine T_ret ?_
                                  obtain rfl := someI hm
                                  refine ⟨[_, _], [1000, 1001, 1002], ⟨⟨_, _, rfl, rfl, .inr ⟨ag35, _, _, sz35, rfl, rfl⟩⟩, rfl, trivial⟩, ?_, rfl, rfl, rfl, rfl⟩
                                  rfl
                                · replace hm := condF hq hm
                                  refine T_skip ?_
                                  refine T_keepH [1, 4, 6, 7, 9, 10, 11] [11, 16, 17, 19, 21, 26] rfl rfl rfl rfl (by rw [hF]; rfl) ?_
                                  exact hj4 () hm
                              · replace hm := condF hq hm
                                refine TL_pass rfl rfl rfl rfl rfl rfl rfl ?_
                                refine TL_pass rfl rfl rfl rfl rfl rfl rfl ?_
                                refine TL_pass rfl rfl rfl rfl rfl rfl rfl ?_
                                refine TL_want rfl rfl ?_
                                refine TL_pure rfl rfl rfl rfl (op_pick_false rfl rfl) ?_
                                refine TL_pure rfl rfl rfl rfl (op_pick_false rfl rfl) ?_
                                refine TL_nil ?_
                                refine T_cond_false rfl ?_
                                refine T_skip ?_
                                refine T_keepH [1, 4, 6, 7, 9, 10, 11] [11, 16, 17, 19, 21, 26] rfl rfl rfl rfl (by rw [hF]; rfl) ?_
                                exact hj4 () hm
                        · replace hm := condF hq hm
                          refine TL_pass rfl rfl rfl rfl rfl rfl rfl ?_
                          refine TL_pass rfl rfl rfl rfl rfl rfl rfl ?_
                          refine TL_pass rfl rfl rfl rfl rfl rfl rfl ?_
                          refine TL_pass rfl rfl rfl rfl rfl rfl rfl ?_
                          refine TL_want rfl rfl ?_
                          refine TL_pure rfl rfl rfl rfl (op_pick_false rfl rfl) ?_
                          refine TL_pure rfl rfl rfl rfl (op_pick_false rfl rfl) ?_
                          refine TL_pure rfl rfl rfl rfl (op_move rfl) ?_
                          refine TL_want rfl rfl ?_
                          refine TL_pure rfl rfl rfl rfl (op_fieldAddr fa40_0 rfl rfl) ?_
                          refine TL_want rfl rfl ?_
                          refine TL_pure rfl rfl rfl rfl (op_load_one ag2 rfl rfl) ?_
                          refine TL_want rfl rfl ?_
                          refine TL_pure rfl rfl rfl rfl (op_eql rfl rfl) ?_
                          refine TL_want rfl rfl ?_
                          refine TL_pure rfl rfl rfl rfl (op_move rfl) ?_
                          refine TL_split 133 rfl rfl rfl (fun hq => ?_) (fun hq => ?_)
                          · replace hm := condT hq hm
                            refine TL_pass rfl rfl rfl rfl rfl rfl rfl ?_
                            refine TL_pass rfl rfl rfl rfl rfl rfl rfl ?_
                            refine TL_pass rfl rfl rfl rfl rfl rfl rfl ?_
                            refine TL_want rfl rfl ?_
                            refine TL_pure rfl rfl rfl rfl (op_pick_true rfl rfl) ?_
                            refine TL_want rfl rfl ?_
                            refine TL_pure rfl rfl rfl rfl (op_move rfl) ?_
                            refine TL_want rfl rfl ?_
                            refine TL_pure rfl rfl rfl rfl (op_move rfl) ?_
                            refine TL_want rfl rfl ?_
                            obtain ⟨r140, hr140, hm⟩ := bindS hm
                            refine TL_callF (c_spec_l03Int j1 r140 hr140) Try.call142 rfl rfl rfl rfl rfl ?_
                            refine TL_want rfl rfl ?_
                            refine TL_pure rfl rfl rfl rfl (op_not rfl) ?_
                            refine TL_want rfl rfl ?_
                            refine TL_pure rfl rfl rfl rfl (op_pick_true rfl rfl) ?_
                            refine TL_pure rfl rfl rfl rfl (op_pick_false rfl rfl) ?_
                            refine TL_nil ?_
                            refine T_cond rfl (fun hq => ?_) (fun hq => ?_)
                            · replace hm := condT hq hm
                              refine T_seq ?_
                              refine T_region ?_
                              refine TL_pure rfl rfl rfl rfl (op_load_agg ag35 sz35 rfl rfl rfl) ?_
                              refine TL_store_box sz35 rfl rfl rfl rfl rfl rfl rfl rfl rfl ?_
                              refine TL_pure rfl rfl rfl rfl (op_assign rfl) ?_
                              refine TL_nil ?_
                              refine T_keepH [4, 5] [11, 16, 17, 19] rfl rfl rfl rfl (by rw [hF]; rfl) ?_
                              refine T_ren [(11, 11), (16, 1000), (17, 1001), (19, 1002)] rfl rfl rfl (by rw [hF]; rfl) ?_
                              refine T_ret ?_
                              obtain rfl := someI hm
                              refine ⟨[_, _], [1000, 1001, 1002], ⟨⟨_, _, rfl, rfl, .inr ⟨ag35, _, _, sz35, rfl, rfl⟩⟩, rfl, trivial⟩, ?_, rfl, rfl, rfl, rfl⟩
                              rfl
                            · replace hm := condF hq hm
                              refine T_skip ?_
                              refine T_keepH [1, 4, 6, 7, 9, 10, 11] [11, 16, 17, 19, 21, 26] rfl rfl rfl rfl (by rw [hF]; rfl) ?_
                              exact hj4 () hm
                          · replace hm := condF hq hm
                            refine TL_want rfl rfl ?_
                            refine TL_pure rfl rfl rfl rfl (op_fieldAddr fa40_0 rfl rfl) ?_
                            refine TL_want rfl rfl ?_
                            refine TL_pure rfl rfl rfl rfl (op_load_one ag2 rfl rfl) ?_
                            refine TL_want rfl rfl ?_
                            refine TL_pure rfl rfl rfl rfl (op_eql rfl rfl) ?_
                            refine TL_want rfl rfl ?_
                            refine TL_pure rfl rfl rfl rfl (op_pick_false rfl rfl) ?_
                            refine TL_want rfl rfl ?_
                            refine TL_pure rfl rfl rfl rfl (op_move rfl) ?_
                            refine TL_split 138 rfl rfl rfl (fun hq => ?_) (fun hq => ?_)
                            · replace hm := condT hq hm
                              refine TL_want rfl rfl ?_
                              refine TL_pure rfl rfl rfl rfl (op_move rfl) ?_
                              refine TL_want rfl rfl ?_
                              obtain ⟨r140, hr140, hm⟩ := bindS hm
                              refine TL_callF (c_spec_l03Int j1 r140 hr140) Try.call142 rfl rfl rfl rfl rfl ?_
                              refine TL_want rfl rfl ?_
                              refine TL_pure rfl rfl rfl rfl (op_not rfl) ?_
                              refine TL_want rfl rfl ?_
                              refine TL_pure rfl rfl rfl rfl (op_pick_true rfl rfl) ?_
                              refine TL_pure rfl rfl rfl rfl (op_pick_false rfl rfl) ?_
                              refine TL_nil ?_
                              refine T_cond rfl (fun hq => ?_) (fun hq => ?_)
                              · replace hm := condT hq hm
                                refine T_seq ?_
                                refine T_region ?_
                                refine TL_pure rfl rfl rfl rfl (op_load_agg ag35 sz35 rfl rfl rfl) ?_
                                refine TL_store_box sz35 rfl rfl rfl rfl rfl rfl rfl rfl rfl ?_
                                refine TL_pure rfl rfl rfl rfl (op_assign rfl) ?_
                                refine TL_nil ?_
                                refine T_keepH [4, 5] [11, 16, 17, 19] rfl rfl rfl rfl (by rw [hF]; rfl) ?_
                                refine T_ren [(11, 11), (16, 1000), (17, 1001), (19, 1002)] rfl rfl rfl (by rw [hF]; rfl) ?_
                                refine T_ret ?_
                                obtain rfl := someI hm
                                refine ⟨[_, _], [1000, 1001, 1002], ⟨⟨_, _, rfl, rfl, .inr ⟨ag35, _, _, sz35, rfl, rfl⟩⟩, rfl, trivial⟩, ?_, rfl, rfl, rfl, rfl⟩
                                rfl
                              · replace hm := condF hq hm
                                refine T_skip ?_
                                refine T_keepH [1, 4, 6, 7, 9, 10, 11] [11, 16, 17, 19, 21, 26] rfl rfl rfl rfl (by rw [hF]; rfl) ?_
                                exact hj4 () hm
                            · replace hm := condF hq hm
                              refine TL_pass rfl rfl rfl rfl rfl rfl rfl ?_
                              refine TL_pass rfl rfl rfl rfl rfl rfl rfl ?_
                              refine TL_pass rfl rfl rfl rfl rfl rfl rfl ?_
                              refine TL_want rfl rfl ?_
                              refine TL_pure rfl rfl rfl rfl (op_pick_false rfl rfl) ?_
                              refine TL_pure rfl rfl rfl rfl (op_pick_false rfl rfl) ?_
                              refine TL_nil ?_
                              refine T_cond_false rfl ?_
                              refine T_skip ?_
                              refine T_keepH [1, 4, 6, 7, 9, 10, 11] [11, 16, 17, 19, 21, 26] rfl rfl rfl rfl (by rw [hF]; rfl) ?_
                              exact hj4 () hm
                    · replace hm := condF hq hm
                      refine TL_pass rfl rfl rfl rfl rfl rfl rfl ?_
                      refine TL_pass rfl rfl rfl rfl rfl rfl rfl ?_
                      refine TL_pass rfl rfl rfl rfl rfl rfl rfl ?_
                      refine TL_pass rfl rfl rfl rfl rfl rfl rfl ?_
                      refine TL_pass rfl rfl rfl rfl rfl rfl rfl ?_
                      refine TL_pure rfl rfl rfl rfl (op_pick_false rfl rfl) ?_
                      refine TL_pure rfl rfl rfl rfl (op_move rfl) ?_
                      refine TL_want rfl rfl ?_
                      refine TL_pure rfl rfl rfl rfl (op_fieldAddr fa40_0 rfl rfl) ?_
                      refine TL_want rfl rfl ?_
                      refine TL_pure rfl rfl rfl rfl (op_load_one ag2 rfl rfl) ?_
                      refine TL_want rfl rfl ?_
                      refine TL_pure rfl rfl rfl rfl (op_eql rfl rfl) ?_
                      refine TL_want rfl rfl ?_
                      refine TL_pure rfl rfl rfl rfl (op_move rfl) ?_
                      refine TL_split 122 rfl rfl rfl (fun hq => ?_) (fun hq => ?_)
                      · replace hm := condT hq hm
                        refine TL_want rfl rfl ?_
                        refine TL_pure rfl rfl rfl rfl (op_move rfl) ?_
                        refine TL_want rfl rfl ?_
                        refine TL_pure rfl rfl rfl rfl (op_fieldAddr fa40_1 rfl rfl) ?_
                        refine TL_want rfl rfl ?_
                        refine TL_pure rfl rfl rfl rfl (op_load_one ag2 rfl rfl) ?_
                        refine TL_want rfl rfl ?_
                        obtain ⟨r126, hr126, hm⟩ := bindS hm
                        refine TL_callF (c_spec_l07Far j1 x39.Arg r126 hr126) Try.call141 rfl rfl rfl rfl rfl ?_
                        refine TL_want rfl rfl ?_
                        refine TL_pure rfl rfl rfl rfl (op_pick_true rfl rfl) ?_
                        refine TL_pure rfl rfl rfl rfl (op_pick_false rfl rfl) ?_
                        refine TL_pure rfl rfl rfl rfl (op_move rfl) ?_
                        refine TL_split 129 rfl rfl rfl (fun hq => ?_) (fun hq => ?_)
                        · replace hm := condT hq hm
                          refine TL_pass rfl rfl rfl rfl rfl rfl rfl ?_
                          refine TL_pass rfl rfl rfl rfl rfl rfl rfl ?_
                          refine TL_pass rfl rfl rfl rfl rfl rfl rfl ?_
                          refine TL_pass rfl rfl rfl rfl rfl rfl rfl ?_
                          refine TL_pass2 rfl rfl rfl rfl rfl rfl ?_
                          refine TL_pass2 rfl rfl rfl rfl rfl rfl ?_
                          refine TL_pass2 rfl rfl rfl rfl rfl rfl ?_
                          refine TL_pass rfl rfl rfl rfl rfl rfl rfl ?_
                          refine TL_pass rfl rfl rfl rfl rfl rfl rfl ?_
                          refine TL_pass2 rfl rfl rfl rfl rfl rfl ?_
                          refine TL_pass2 rfl rfl rfl rfl rfl rfl ?_
                          refine TL_pass2 rfl rfl rfl rfl rfl rfl ?_
                          refine TL_pass rfl rfl rfl rfl rfl rfl rfl ?_
                          refine TL_pure rfl rfl rfl rfl (op_pick_true rfl rfl) ?_
                          refine TL_nil ?_
                          refine T_cond_true rfl ?_
                          refine T_seq ?_
                          refine T_region ?_
                          refine TL_pure rfl rfl rfl rfl (op_load_agg ag35 sz35 rfl rfl rfl) ?_
                          refine TL_store_box sz35 rfl rfl rfl rfl rfl rfl rfl rfl rfl ?_
                          refine TL_pure rfl rfl rfl rfl (op_assign rfl) ?_
                          refine TL_nil ?_
                          refine T_keepH [4, 5] [11, 16, 17, 19] rfl rfl rfl rfl (by rw [hF]; rfl) ?_
                          refine T_ren [(11, 11), (16, 1000), (17, 1001), (19, 1002)] rfl rfl rfl (by rw [hF]; rfl) ?_
                          refine T_ret ?_
                          obtain rfl := someI hm
                          refine ⟨[_, _], [1000, 1001, 1002], ⟨⟨_, _, rfl, rfl, .inr ⟨ag35, _, _, sz35, rfl, rfl⟩⟩, rfl, trivial⟩, ?_, rfl, rfl, rfl, rfl⟩
                          rfl
                        · replace hm := condF hq hm
                          refine TL_want rfl rfl ?_
                          refine TL_pure rfl rfl rfl rfl (op_fieldAddr fa40_0 rfl rfl) ?_
                          refine TL_want rfl rfl ?_
                          refine TL_pure rfl rfl rfl rfl (op_load_one ag2 rfl rfl) ?_
                          refine TL_want rfl rfl ?_
                          refine TL_pure rfl rfl rfl rfl (op_eql rfl rfl) ?_
                          refine TL_want rfl rfl ?_
                          refine TL_pure rfl rfl rfl rfl (op_move rfl) ?_
                          refine TL_split 133 rfl rfl rfl (fun hq => ?_) (fun hq => ?_)
                          · replace hm := condT hq hm
                            refine TL_pass rfl rfl rfl rfl rfl rfl rfl ?_
                            refine TL_pass rfl rfl rfl rfl rfl rfl rfl ?_
                            refine TL_pass rfl rfl rfl rfl rfl rfl rfl ?_
                            refine TL_want rfl rfl ?_
                            refine TL_pure rfl rfl rfl rfl (op_pick_true rfl rfl) ?_
                            refine TL_want rfl rfl ?_
                            refine TL_pure rfl rfl rfl rfl (op_move rfl) ?_
                            refine TL_want rfl rfl ?_
                            refine TL_pure rfl rfl rfl rfl (op_move rfl) ?_
                            refine TL_want rfl rfl ?_
                            obtain ⟨r140, hr140, hm⟩ := bindS hm
                            refine TL_callF (c_spec_l03Int j1 r140 hr140) Try.call142 rfl rfl rfl rfl rfl ?_
                            refine TL_want rfl rfl ?_
                            refine TL_pure rfl rfl rfl rfl (op_not rfl) ?_
                            refine TL_want rfl rfl ?_
                            refine TL_pure rfl rfl rfl rfl (op_pick_true rfl rfl) ?_
                            refine TL_pure rfl rfl rfl rfl (op_pick_false rfl rfl) ?_
                            refine TL_nil ?_
                            refine T_cond rfl (fun hq => ?_) (fun hq => ?_)
                            · replace hm := condT hq hm
                              refine T_seq ?_
                              refine T_region ?_
                              refine TL_pure rfl rfl rfl rfl (op_load_agg ag35 sz35 rfl rfl rfl) ?_
                              refine TL_store_box sz35 rfl rfl rfl rfl rfl rfl rfl rfl rfl ?_
                              refine TL_pure rfl rfl rfl rfl (op_assign rfl) ?_
                              refine TL_nil ?_
                              refine T_keepH [4, 5] [11, 16, 17, 19] rfl rfl rfl rfl (by rw [hF]; rfl) ?_
                              refine T_ren [(11, 11), (16, 1000), (17, 1001), (19, 1002)] rfl rfl rfl (by rw [hF]; rfl) ?_
                              refine T_ret ?_
                              obtain rfl := someI hm
                              refine ⟨[_, _], [1000, 1001, 1002], ⟨⟨_, _, rfl, rfl, .inr ⟨ag35, _, _, sz35, rfl, rfl⟩⟩, rfl, trivial⟩, ?_, rfl, rfl, rfl, rfl⟩
                              rfl
                            · replace hm := condF hq hm
                              refine T_skip ?_
                              refine T_keepH [1, 4, 6, 7, 9, 10, 11] [11, 16, 17, 19, 21, 26] rfl rfl rfl rfl (by rw [hF]; rfl) ?_
                              exact hj4 () hm
                          · replace hm := condF hq hm
                            refine TL_want rfl rfl ?_
                            refine TL_pure rfl rfl rfl rfl (op_fieldAddr fa40_0 rfl rfl) ?_
                            refine TL_want rfl rfl ?_
                            refine TL_pure rfl rfl rfl rfl (op_load_one ag2 rfl rfl) ?_
                            refine TL_want rfl rfl ?_
                            refine TL_pure rfl rfl rfl rfl (op_eql rfl rfl) ?_
                            refine TL_want rfl rfl ?_
                            refine TL_pure rfl rfl rfl rfl (op_pick_false rfl rfl) ?_
                            refine TL_want rfl rfl ?_
                            refine TL_pure rfl rfl rfl rfl (op_move rfl) ?_
                            refine TL_split 138 rfl rfl rfl (fun hq => ?_) (fun hq => ?_)
                            · replace hm := condT hq hm
                              refine TL_want rfl rfl ?_
                              refine TL_pure rfl rfl rfl rfl (op_move rfl) ?_
                              refine TL_want rfl rfl ?_
                              obtain ⟨r140, hr140, hm⟩ := bindS hm
                              refine TL_callF (c_spec_l03Int j1 r140 hr140) Try.call142 rfl rfl rfl rfl rfl ?_
                              refine TL_want rfl rfl ?_
                              refine TL_pure rfl rfl rfl rfl (op_not rfl) ?_
                              refine TL_want rfl rfl ?_
                              refine TL_pure rfl rfl rfl rfl (op_pick_true rfl rfl) ?_
                              refine TL_pure rfl rfl rfl rfl (op_pick_false rfl rfl) ?_
                              refine TL_nil ?_
                              refine T_cond rfl (fun hq => ?_) (fun hq => ?_)
                              · replace hm := condT hq hm
                                refine T_seq ?_
                                refine T_region ?_
                                refine TL_pure rfl rfl rfl rfl (op_load_agg ag35 sz35 rfl rfl rfl) ?_
                                refine TL_store_box sz35 rfl rfl rfl rfl rfl rfl rfl rfl rfl ?_
                                refine TL_pure rfl rfl rfl rfl (op_assign rfl) ?_
                                refine TL_nil ?_
                                refine T_keepH [4, 5] [11, 16, 17, 19] rfl rfl rfl rfl (by rw [hF]; rfl) ?_
                                refine T_ren [(11, 11), (16, 1000), (17, 1001), (19, 1002)] rfl rfl rfl (by rw [hF]; rfl) ?_
                                refine T_ret ?_
                                obtain rfl := someI hm
                                refine ⟨[_, _], [1000, 1001, 1002], ⟨⟨_, _, rfl, rfl, .inr ⟨ag35, _, _, sz35, rfl, rfl⟩⟩, rfl, trivial⟩, ?_, rfl, rfl, rfl, rfl⟩
                                rfl
                              · replace hm := condF hq hm
                                refine T_skip ?_
                                refine T_keepH [1, 4, 6, 7, 9, 10, 11] [11, 16, 17, 19, 21, 26] rfl rfl rfl rfl (by rw [hF]; rfl) ?_
                                exact hj4 () hm
                            · replace hm := condF hq hm
                              refine TL_pass rfl rfl rfl rfl rfl rfl rfl ?_
                              refine TL_pass rfl rfl rfl rfl rfl rfl rfl ?_
                              refine TL_pass rfl rfl rfl rfl rfl rfl rfl ?_
                              refine TL_want rfl rfl ?_
                              refine TL_pure rfl rfl rfl rfl (op_pick_false rfl rfl) ?_
                              refine TL_pure rfl rfl rfl rfl (op_pick_false rfl rfl) ?_
                              refine TL_nil ?_
                              refine T_cond_false rfl ?_
                              refine T_skip ?_
                              refine T_keepH [1, 4, 6, 7, 9, 10, 11] [11, 16, 17, 19, 21, 26] rfl rfl rfl rfl (by rw [hF]; rfl) ?_
                              exact hj4 () hm
                      · replace hm := condF hq hm
                        refine TL_pass rfl rfl rfl rfl rfl rfl rfl ?_
                        refine TL_pass rfl rfl rfl rfl rfl rfl rfl ?_
                        refine TL_pass rfl rfl rfl rfl rfl rfl rfl ?_
                        refine TL_pass rfl rfl rfl rfl rfl rfl rfl ?_
                        refine TL_want rfl rfl ?_
                        refine TL_pure rfl rfl rfl rfl (op_pick_false rfl rfl) ?_
                        refine TL_pure rfl rfl rfl rfl (op_pick_false rfl rfl) ?_
                        refine TL_pure rfl rfl rfl rfl (op_move rfl) ?_
                        refine TL_want rfl rfl ?_
                        refine TL_pure rfl rfl rfl rfl (op_fieldAddr fa40_0 rfl rfl) ?_
                        refine TL_want rfl rfl ?_
                        refine TL_pure rfl rfl rfl rfl (op_load_one ag2 rfl rfl) ?_
                        refine TL_want rfl rfl ?_
                        refine TL_pure rfl rfl rfl rfl (op_eql rfl rfl) ?_
                        refine TL_want rfl rfl ?_
                        refine TL_pure rfl rfl rfl rfl (op_move rfl) ?_
                        refine TL_split 133 rfl rfl rfl (fun hq => ?_) (fun hq => ?_)
                        · replace hm := condT hq hm
                          refine TL_pass rfl rfl rfl rfl rfl rfl rfl ?_
                          refine TL_pass rfl rfl rfl rfl rfl rfl rfl ?_
                          refine TL_pass rfl rfl rfl rfl rfl rfl rfl ?_
                          refine TL_want rfl rfl ?_
                          refine TL_pure rfl rfl rfl rfl (op_pick_true rfl rfl) ?_
                          refine TL_want rfl rfl ?_
                          refine TL_pure rfl rfl rfl rfl (op_move rfl) ?_
                          refine TL_want rfl rfl ?_
                          refine TL_pure rfl rfl rfl rfl (op_move rfl) ?_
                          refine TL_want rfl rfl ?_
                          obtain ⟨r140, hr140, hm⟩ := bindS hm
                          refine TL_callF (c_spec_l03Int j1 r140 hr140) Try.call142 rfl rfl rfl rfl rfl ?_
                          refine TL_want rfl rfl ?_
                          refine TL_pure rfl rfl rfl rfl (op_not rfl) ?_
                          refine TL_want rfl rfl ?_
                          refine TL_pure rfl rfl rfl rfl (op_pick_true rfl rfl) ?_
                          refine TL_pure rfl rfl rfl rfl (op_pick_false rfl rfl) ?_
                          refine TL_nil ?_
                          refine T_cond rfl (fun hq => ?_) (fun hq => ?_)
                          · replace hm := condT hq hm
                            refine T_seq ?_
                            refine T_region ?_
                            refine TL_pure rfl rfl rfl rfl (op_load_agg ag35 sz35 rfl rfl rfl) ?_
                            refine TL_store_box sz35 rfl rfl rfl rfl rfl rfl rfl rfl rfl ?_
                            refine TL_pure rfl rfl rfl rfl (op_assign rfl) ?_
                            refine TL_nil ?_
                            refine T_keepH [4, 5] [11, 16, 17, 19] rfl rfl rfl rfl (by rw [hF]; rfl) ?_
                            refine T_ren [(11, 11), (16, 1000), (17, 1001), (19, 1002)] rfl rfl rfl (by rw [hF]; rfl) ?_
                            refine T_ret ?_
                            obtain rfl := someI hm
                            refine ⟨[_, _], [1000, 1001, 1002], ⟨⟨_, _, rfl, rfl, .inr ⟨ag35, _, _, sz35, rfl, rfl⟩⟩, rfl, trivial⟩, ?_, rfl, rfl, rfl, rfl⟩
                            rfl
                          · replace hm := condF hq hm
                            refine T_skip ?_
                            refine T_keepH [1, 4, 6, 7, 9, 10, 11] [11, 16, 17, 19, 21, 26] rfl rfl rfl rfl (by rw [hF]; rfl) ?_
                            exact hj4 () hm
                        · replace hm := condF hq hm
                          refine TL_want rfl rfl ?_
                          refine TL_pure rfl rfl rfl rfl (op_fieldAddr fa40_0 rfl rfl) ?_
                          refine TL_want rfl rfl ?_
                          refine TL_pure rfl rfl rfl rfl (op_load_one ag2 rfl rfl) ?_
                          refine TL_want rfl rfl ?_
                          refine TL_pure rfl rfl rfl rfl (op_eql rfl rfl) ?_
                          refine TL_want rfl rfl ?_
                          refine TL_pure rfl rfl rfl rfl (op_pick_false rfl rfl) ?_
                          refine TL_want rfl rfl ?_
                          refine TL_pure rfl rfl rfl rfl (op_move rfl) ?_
                          refine TL_split 138 rfl rfl rfl (fun hq => ?_) (fun hq => ?_)
                          · replace hm := condT hq hm
                            refine TL_want rfl rfl ?_
                            refine TL_pure rfl rfl rfl rfl (op_move rfl) ?_
                            refine TL_want rfl rfl ?_
                            obtain ⟨r140, hr140, hm⟩ := bindS hm
                            refine TL_callF (c_spec_l03Int j1 r140 hr140) Try.call142 rfl rfl rfl rfl rfl ?_
                            refine TL_want rfl rfl ?_
                            refine TL_pure rfl rfl rfl rfl (op_not rfl) ?_
                            refine TL_want rfl rfl ?_
                            refine TL_pure rfl rfl rfl rfl (op_pick_true rfl rfl) ?_
                            refine TL_pure rfl rfl rfl rfl (op_pick_false rfl rfl) ?_
                            refine TL_nil ?_
                            refine T_cond rfl (fun hq => ?_) (fun hq => ?_)
                            · replace hm := condT hq hm
                              refine T_seq ?_
                              refine T_region ?_
                              refine TL_pure rfl rfl rfl rfl (op_load_agg ag35 sz35 rfl rfl rfl) ?_
                              refine TL_store_box sz35 rfl rfl rfl rfl rfl rfl rfl rfl rfl ?_
                              refine TL_pure rfl rfl rfl rfl (op_assign rfl) ?_
                              refine TL_nil ?_
                              refine T_keepH [4, 5] [11, 16, 17, 19] rfl rfl rfl rfl (by rw [hF]; rfl) ?_
                              refine T_ren [(11, 11), (16, 1000), (17, 1001), (19, 1002)] rfl rfl rfl (by rw [hF]; rfl) ?_
                              refine T_ret ?_
                              obtain rfl := someI hm
                              refine ⟨[_, _], [1000, 1001, 1002], ⟨⟨_, _, rfl, rfl, .inr ⟨ag35, _, _, sz35, rfl, rfl⟩⟩, rfl, trivial⟩, ?_, rfl, rfl, rfl, rfl⟩
                              rfl
                            · replace hm := condF hq hm
                              refine T_skip ?_
                              refine T_keepH [1, 4, 6, 7, 9, 10, 11] [11, 16, 17, 19, 21, 26] rfl rfl rfl rfl (by rw [hF]; rfl) ?_
                              exact hj4 () hm
                          · replace hm := condF hq hm
                            refine TL_pass rfl rfl rfl rfl rfl rfl rfl ?_
                            refine TL_pass rfl rfl rfl rfl rfl rfl rfl ?_
                            refine TL_pass rfl rfl rfl rfl rfl rfl rfl ?_
                            refine TL_want rfl rfl ?_
                            refine TL_pure rfl rfl rfl rfl (op_pick_false rfl rfl) ?_
                            refine TL_pure rfl rfl rfl rfl (op_pick_false rfl rfl) ?_
                            refine TL_nil ?_
                            refine T_cond_false rfl ?_
                            refine T_skip ?_
                            refine T_keepH [1, 4, 6, 7, 9, 10, 11] [11, 16, 17, 19, 21, 26] rfl rfl rfl rfl (by rw [hF]; rfl) ?_
                            exact hj4 () hm
                · refine T_seq ?_
                  refine T_region ?_
                  refine TL_pure rfl rfl rfl rfl (op_fieldAddr fa40_0 rfl rfl) ?_
                  refine TL_pure rfl rfl rfl rfl (op_load_one ag2 rfl rfl) ?_
                  refine TL_pure rfl rfl rfl rfl (op_eql rfl rfl) ?_
                  refine TL_pure rfl rfl rfl rfl (op_move rfl) ?_
                  refine TL_split 92 rfl rfl rfl (fun hq => ?_) (fun hq => ?_)
                  · replace hm := condT hq hm
                    refine TL_want rfl rfl ?_
                    refine TL_pure rfl rfl rfl rfl (op_move rfl) ?_
                    refine TL_want rfl rfl ?_
                    obtain ⟨r94, hr94, hm⟩ := bindS hm
                    refine TL_callF (c_spec_l03Cell j1 r94 hr94) Try.call140 rfl rfl rfl rfl rfl ?_
                    refine TL_want rfl rfl ?_
                    refine TL_pure rfl rfl rfl rfl (op_not rfl) ?_
                    refine TL_pure rfl rfl rfl rfl (op_pick_true rfl rfl) ?_
                    refine TL_pure rfl rfl rfl rfl (op_move rfl) ?_
                    refine TL_split 97 rfl rfl rfl (fun hq => ?_) (fun hq => ?_)
                    · replace hm := condT hq hm
                      refine TL_pass rfl rfl rfl rfl rfl rfl rfl ?_
                      refine TL_pass rfl rfl rfl rfl rfl rfl rfl ?_
                      refine TL_pass rfl rfl rfl rfl rfl rfl rfl ?_
                      refine TL_pass rfl rfl rfl rfl rfl rfl rfl ?_
                      refine TL_pass2 rfl rfl rfl rfl rfl rfl ?_
                      refine TL_pass2 rfl rfl rfl rfl rfl rfl ?_
                      refine TL_pass2 rfl rfl rfl rfl rfl rfl ?_
                      refine TL_pass rfl rfl rfl rfl rfl rfl rfl ?_
                      refine TL_pure rfl rfl rfl rfl (op_pick_true rfl rfl) ?_
                      refine TL_nil ?_
                      refine T_cond_true rfl ?_
                      refine T_seq ?_
                      refine T_region ?_
                      refine TL_pure rfl rfl rfl rfl (op_load_agg ag35 sz35 rfl rfl rfl) ?_
                      refine TL_store_box sz35 rfl rfl rfl rfl rfl rfl rfl rfl rfl ?_
                      refine TL_pure rfl rfl rfl rfl (op_assign rfl) ?_
                      refine TL_nil ?_
                      refine T_keepH [4, 5] [11, 16, 17, 19] rfl rfl rfl rfl (by rw [hF]; rfl) ?_
                      refine T_ren [(11, 11), (16, 1000), (17, 1001), (19, 1002)] rfl rfl rfl (by rw [hF]; rfl) ?_
                      refine T_ret ?_
                      obtain rfl := someI hm
                      refine ⟨[_, _], [1000, 1001, 1002], ⟨⟨_, _, rfl, rfl, .inr ⟨ag35, _, _, sz35, rfl, rfl⟩⟩, rfl, trivial⟩, ?_, rfl, rfl, rfl, rfl⟩
                      rfl
                    · replace hm := condF hq hm
                      refine TL_want rfl rfl ?_
                      refine TL_pure rfl rfl rfl rfl (op_fieldAddr fa40_0 rfl rfl) ?_
                      refine TL_want rfl rfl ?_
                      refine TL_pure rfl rfl rfl rfl (op_load_one ag2 rfl rfl) ?_
                      refine TL_want rfl rfl ?_
                      refine TL_pure rfl rfl rfl rfl (op_eql rfl rfl) ?_
                      refine TL_want rfl rfl ?_
                      refine TL_pure rfl rfl rfl rfl (op_move rfl) ?_
                      refine TL_split 101 rfl rfl rfl (fun hq => ?_) (fun hq => ?_)
                      · replace hm := condT hq hm
                        refine TL_want rfl rfl ?_
                        refine TL_pure rfl rfl rfl rfl (op_move rfl) ?_
                        refine TL_want rfl rfl ?_
                        obtain ⟨r103, hr103, hm⟩ := bindS hm
                        refine TL_callF (c_spec_l03Cell j2 r103 hr103) Try.call140 rfl rfl rfl rfl rfl ?_
                        refine TL_want rfl rfl ?_
                        refine TL_pure rfl rfl rfl rfl (op_not rfl) ?_
                        refine TL_want rfl rfl ?_
                        refine TL_pure rfl rfl rfl rfl (op_pick_true rfl rfl) ?_
                        refine TL_pure rfl rfl rfl rfl (op_pick_false rfl rfl) ?_
                        refine TL_nil ?_
                        refine T_cond rfl (fun hq => ?_) (fun hq => ?_)
                        · replace hm := condT hq hm
                          refine T_seq ?_
                          refine T_region ?_
                          refine TL_pure rfl rfl rfl rfl (op_load_agg ag35 sz35 rfl rfl rfl) ?_
                          refine TL_store_box sz35 rfl rfl rfl rfl rfl rfl rfl rfl rfl ?_
                          refine TL_pure rfl rfl rfl rfl (op_assign rfl) ?_
                          refine TL_nil ?_
                          refine T_keepH [4, 5] [11, 16, 17, 19] rfl rfl rfl rfl (by rw [hF]; rfl) ?_
                          refine T_ren [(11, 11), (16, 1000), (17, 1001), (19, 1002)] rfl rfl rfl (by rw [hF]; rfl) ?_
                          refine T_ret ?_
                          obtain rfl := someI hm
                          refine ⟨[_, _], [1000, 1001, 1002], ⟨⟨_, _, rfl, rfl, .inr ⟨ag35, _, _, sz35, rfl, rfl⟩⟩, rfl, trivial⟩, ?_, rfl, rfl, rfl, rfl⟩
                          rfl
                        · replace hm := condF hq hm
                          refine T_skip ?_
                          refine T_keepH [1, 4, 6, 7, 9, 10, 11] [11, 16, 17, 19, 21, 26] rfl rfl rfl rfl (by rw [hF]; rfl) ?_
                          exact hj3 () hm
                      · replace hm := condF hq hm
                        refine TL_pass rfl rfl rfl rfl rfl rfl rfl ?_
                        refine TL_pass rfl rfl rfl rfl rfl rfl rfl ?_
                        refine TL_pass rfl rfl rfl rfl rfl rfl rfl ?_
                        refine TL_want rfl rfl ?_
                        refine TL_pure rfl rfl rfl rfl (op_pick_false rfl rfl) ?_
                        refine TL_pure rfl rfl rfl rfl (op_pick_false rfl rfl) ?_
                        refine TL_nil ?_
                        refine T_cond_false rfl ?_
                        refine T_skip ?_
                        refine T_keepH [1, 4, 6, 7, 9, 10, 11] [11, 16, 17, 19, 21, 26] rfl rfl rfl rfl (by rw [hF]; rfl) ?_
                        exact hj3 () hm
                  · replace hm := condF hq hm
                    refine TL_pass rfl rfl rfl rfl rfl rfl rfl ?_
                    refine TL_pass rfl rfl rfl rfl rfl rfl rfl ?_
                    refine TL_pass rfl rfl rfl rfl rfl rfl rfl ?_
                    refine TL_pure rfl rfl rfl rfl (op_pick_false rfl rfl) ?_
                    refine TL_pure rfl rfl rfl rfl (op_move rfl) ?_
                    refine TL_want rfl rfl ?_
                    refine TL_pure rfl rfl rfl rfl (op_fieldAddr fa40_0 rfl rfl) ?_
                    refine TL_want rfl rfl ?_
                    refine TL_pure rfl rfl rfl rfl (op_load_one ag2 rfl rfl) ?_
                    refine TL_want rfl rfl ?_
                    refine TL_pure rfl rfl rfl rfl (op_eql rfl rfl) ?_
                    refine TL_want rfl rfl ?_
                    refine TL_pure rfl rfl rfl rfl (op_move rfl) ?_
                    refine TL_split 101 rfl rfl rfl (fun hq => ?_) (fun hq => ?_)
                    · replace hm := condT hq hm
                      refine TL_want rfl rfl ?_
                      refine TL_pure rfl rfl rfl rfl (op_move rfl) ?_
                      refine TL_want rfl rfl ?_
                      obtain ⟨r103, hr103, hm⟩ := bindS hm
                      refine TL_callF (c_spec_l03Cell j2 r103 hr103) Try.call140 rfl rfl rfl rfl rfl ?_
                      refine TL_want rfl rfl ?_
                      refine TL_pure rfl rfl rfl rfl (op_not rfl) ?_
                      refine TL_want rfl rfl ?_
                      refine TL_pure rfl rfl rfl rfl (op_pick_true rfl rfl) ?_
                      refine TL_pure rfl rfl rfl rfl (op_pick_false rfl rfl) ?_
                      refine TL_nil ?_
                      refine T_cond rfl (fun hq => ?_) (fun hq => ?_)
                      · replace hm := condT hq hm
                        refine T_seq ?_
                        refine T_region ?_
                        refine TL_pure rfl rfl rfl rfl (op_load_agg ag35 sz35 rfl rfl rfl) ?_
                        refine TL_store_box sz35 rfl rfl rfl rfl rfl rfl rfl rfl rfl ?_
                        refine TL_pure rfl rfl rfl rfl (op_assign rfl) ?_
                        refine TL_nil ?_
                        refine T_keepH [4, 5] [11, 16, 17, 19] rfl rfl rfl rfl (by rw [hF]; rfl) ?_
                        refine T_ren [(11, 11), (16, 1000), (17, 1001), (19, 1002)] rfl rfl rfl (by rw [hF]; rfl) ?_
                        refine T_ret ?_
                        obtain rfl := someI hm
                        refine ⟨[_, _], [1000, 1001, 1002], ⟨⟨_, _, rfl, rfl, .inr ⟨ag35, _, _, sz35, rfl, rfl⟩⟩, rfl, trivial⟩, ?_, rfl, rfl, rfl, rfl⟩
                        rfl
                      · replace hm := condF hq hm
                        refine T_skip ?_
                        refine T_keepH [1, 4, 6, 7, 9, 10, 11] [11, 16, 17, 19, 21, 26] rfl rfl rfl rfl (by rw [hF]; rfl) ?_
                        exact hj3 () hm
                    · replace hm := condF hq hm
                      refine TL_pass rfl rfl rfl rfl rfl rfl rfl ?_
                      refine TL_pass rfl rfl rfl rfl rfl rfl rfl ?_
                      refine TL_pass rfl rfl rfl rfl rfl rfl rfl ?_
                      refine TL_want rfl rfl ?_
                      refine TL_pure rfl rfl rfl rfl (op_pick_false rfl rfl) ?_
                      refine TL_pure rfl rfl rfl rfl (op_pick_false rfl rfl) ?_
                      refine TL_nil ?_
                      refine T_cond_false rfl ?_
                      refine T_skip ?_
                      refine T_keepH [1, 4, 6, 7, 9, 10, 11] [11, 16, 17, 19, 21, 26] rfl rfl rfl rfl (by rw [hF]; rfl) ?_
                      exact hj3 () hm
              · refine T_seq ?_
                refine T_region ?_
                refine TL_pure rfl rfl rfl rfl (op_move rfl) ?_
                refine TL_pure rfl rfl rfl rfl (op_gtr rfl rfl) ?_
                refine TL_nil ?_
                refine T_cond rfl (fun hq => ?_) (fun hq => ?_)
                · replace hm := condT hq hm
                  refine T_region ?_
                  refine TL_pure rfl rfl rfl rfl (op_move rfl) ?_
                  refine TL_pure rfl rfl rfl rfl (op_nilCheck rfl rfl) ?_
                  refine TL_pure rfl rfl rfl rfl (op_fieldAddrC (n := 1) fa35_1 rfl rfl rfl) ?_
                  refine TL_pure rfl rfl rfl rfl (op_load_one ag26 rfl rfl) ?_
                  refine TL_pure rfl rfl rfl rfl (op_move rfl) ?_
                  obtain ⟨x87, hx87, hm⟩ := bindS hm
                  refine TL_pure rfl rfl rfl rfl (op_indexT el26 rfl rfl hx87 rfl) ?_
                  refine TL_pure rfl rfl rfl rfl (op_load_one ag2 rfl rfl) ?_
                  refine TL_pure rfl rfl rfl rfl (op_assign rfl) ?_
                  refine TL_nil ?_
                  refine T_keepH [1, 4, 6, 7, 9, 10, 11] [11, 16, 17, 19, 21, 26] rfl rfl rfl rfl (by rw [hF]; rfl) ?_
                  exact hj2 x87 hm
                · replace hm := condF hq hm
                  refine T_skip ?_
                  refine T_keepH [1, 4, 6, 7, 9, 10, 11] [11, 16, 17, 19, 21, 26] rfl rfl rfl rfl (by rw [hF]; rfl) ?_
                  exact hj2 (0 : Int) hm
            · refine T_seq ?_
              refine T_region ?_
              refine TL_pure rfl rfl rfl rfl (op_move rfl) ?_
              refine TL_pure rfl rfl rfl rfl (op_gtr rfl rfl) ?_
              refine TL_nil ?_
              refine T_cond rfl (fun hq => ?_) (fun hq => ?_)
              · replace hm := condT hq hm
                refine T_drawZ [] mix (by kernel_rfl) rfl ?_
                obtain ⟨x78, hx78, hm⟩ := bindS hm
                refine TZ_pure 0 (by kernel_rfl) rfl rfl rfl rfl rfl (op_move rfl) ?_
                refine TZ_pure 1 (by kernel_rfl) rfl rfl rfl rfl rfl (op_nilCheck rfl rfl) ?_
                refine TZ_pure 2 (by kernel_rfl) rfl rfl rfl rfl rfl (op_fieldAddrC (n := 1) fa35_1 rfl rfl rfl) ?_
                refine TZ_pure 3 (by kernel_rfl) rfl rfl rfl rfl rfl (op_load_one ag26 rfl rfl) ?_
                refine TZ_pure 4 (by kernel_rfl) rfl rfl rfl rfl rfl (op_move rfl) ?_
                refine TZ_pure 5 (by kernel_rfl) rfl rfl rfl rfl rfl (op_nilCheck rfl rfl) ?_
                refine TZ_pure 6 (by kernel_rfl) rfl rfl rfl rfl rfl (op_fieldAddrC (n := 1) fa35_1 rfl rfl rfl) ?_
                refine TZ_pure 7 (by kernel_rfl) rfl rfl rfl rfl rfl (op_load_one ag26 rfl rfl) ?_
                refine TZ_pure 8 (by kernel_rfl) rfl rfl rfl rfl rfl (op_lenT Try.underlying26 rfl (List.length_map _)) ?_
                refine TZ_pure 9 (by kernel_rfl) rfl rfl rfl rfl rfl (op_subW rfl rfl) ?_
                refine TZ_pure 10 (by kernel_rfl) rfl rfl rfl rfl rfl (op_indexT el26 rfl rfl hx78 rfl) ?_
                refine TZ_pure 11 (by kernel_rfl) rfl rfl rfl rfl rfl (op_load_one ag2 rfl rfl) ?_
                refine TZ_pure 12 (by kernel_rfl) rfl rfl rfl rfl rfl (op_assign rfl) ?_
                refine TZ_done (by kernel_rfl) ?_
                refine T_keepH [1, 4, 6, 7, 8, 9, 10, 11] [11, 16, 17, 19, 21, 26] rfl rfl rfl rfl (by rw [hF]; rfl) ?_
                exact hj1 x78 hm
              · replace hm := condF hq hm
                refine T_skip ?_
                refine T_keepH [1, 4, 6, 7, 8, 9, 10, 11] [11, 16, 17, 19, 21, 26] rfl rfl rfl rfl (by rw [hF]; rfl) ?_
                exact hj1 (0 : Int) hm
  · refine T_drawZ [15] mix (by kernel_rfl) rfl ?_
    obtain ⟨r15, hr15, hm⟩ := bindS hm
    obtain ⟨r20, hr20, hm⟩ := bindS hm
    refine TZ_pure 0 (by kernel_rfl) rfl rfl rfl rfl rfl (op_move rfl) ?_
    refine TZ_pure 1 (by kernel_rfl) rfl rfl rfl rfl rfl (op_nilCheck rfl rfl) ?_
    refine TZ_pure 2 (by kernel_rfl) rfl rfl rfl rfl rfl (op_fieldAddrC (n := 2) fa35_0 rfl rfl rfl) ?_
    refine TZ_pure 4 (by kernel_rfl) rfl rfl rfl rfl rfl (op_move rfl) ?_
    refine TZ_pure 5 (by kernel_rfl) rfl rfl rfl rfl rfl (op_nilCheck rfl rfl) ?_
    refine TZ_pure 6 (by kernel_rfl) rfl rfl rfl rfl rfl (op_fieldAddrC (n := 1) fa35_1 rfl rfl rfl) ?_
    refine TZ_pure 7 (by kernel_rfl) rfl rfl rfl rfl rfl (op_load_one ag26 rfl rfl) ?_
    refine TZ_pure 9 (by kernel_rfl) rfl rfl rfl rfl rfl (op_move rfl) ?_
    refine TZ_pure 10 (by kernel_rfl) rfl rfl rfl rfl rfl (op_nilCheck rfl rfl) ?_
    refine TZ_pure 11 (by kernel_rfl) rfl rfl rfl rfl rfl (op_fieldAddr fa35_2 rfl rfl) ?_
    refine TZ_pure 12 (by kernel_rfl) rfl rfl rfl rfl rfl (op_load_one ag2 rfl rfl) ?_
    refine TZ_each [3, 14] (by kernel_rfl) rfl ?_
    refine ⟨?_, ?_⟩
    · refine ⟨_, rfl, ?_⟩
      refine TL_callO [(1000, 51), (1001, 52)] (c_spec_l03Own p1.State r15 hr15) Try.call135 rfl rfl rfl rfl rfl rfl rfl rfl rfl rfl rfl rfl rfl ?_
      refine TL_nil ?_
      refine TZ_each [8, 14] (by kernel_rfl) rfl ?_
      refine ⟨?_, ?_⟩
      · refine ⟨_, rfl, ?_⟩
        refine TL_callO [(1000, 54)] (c_spec_l00Own p1.Stack r20 hr20) Try.call137 rfl rfl rfl rfl rfl rfl rfl rfl rfl rfl rfl rfl rfl ?_
        refine TL_nil ?_
        refine TZ_pure 13 (by kernel_rfl) rfl rfl rfl rfl rfl (op_buildP pl35 z35 rfl rfl rfl rfl rfl) ?_
        refine TZ_one 14 (by kernel_rfl) rfl ?_
        refine TL_alloc 56 z35 rfl rfl rfl rfl rfl rfl rfl ?_
        refine TL_nil ?_
        refine TZ_one 15 (by kernel_rfl) rfl ?_
        refine TL_store_box sz35 rfl rfl rfl rfl rfl rfl rfl rfl rfl ?_
        refine TL_nil ?_
        refine TZ_done (by kernel_rfl) ?_
        refine T_keepH [0, 1, 4, 6] [11, 51, 52, 54, 56] rfl rfl rfl rfl (by rw [hF]; rfl) ?_
        refine T_ren [(11, 11), (51, 16), (52, 17), (54, 19), (56, 21)] rfl rfl rfl (by rw [hF]; rfl) ?_
        exact hj0 (r15.Vars, r15.Cells, r20) hm
      · refine ⟨_, rfl, ?_⟩
        refine TL_alloc 55 z35 rfl rfl rfl rfl rfl rfl rfl ?_
        refine TL_nil ?_
        refine TZ_one 8 (by kernel_rfl) rfl ?_
        refine TL_callO [(1000, 57)] (c_spec_l00Own p1.Stack r20 hr20) Try.call137 rfl rfl rfl rfl rfl rfl rfl rfl rfl rfl rfl rfl rfl ?_
        refine TL_nil ?_
        refine TZ_pure 13 (by kernel_rfl) rfl rfl rfl rfl rfl (op_buildP pl35 z35 rfl rfl rfl rfl rfl) ?_
        refine TZ_one 15 (by kernel_rfl) rfl ?_
        refine TL_store_box sz35 rfl rfl rfl rfl rfl rfl rfl rfl rfl ?_
        refine TL_nil ?_
        refine TZ_done (by kernel_rfl) ?_
        refine T_keepH [0, 1, 4, 6] [11, 51, 52, 55, 57] rfl rfl rfl rfl (by rw [hF]; rfl) ?_
        refine T_ren [(11, 11), (51, 16), (52, 17), (55, 21), (57, 19)] rfl rfl rfl (by rw [hF]; rfl) ?_
        refine T_keepH [0, 1, 4, 6] [11, 16, 17, 19, 21] rfl rfl rfl rfl (by rw [hF]; rfl) ?_
        exact hj0 (r15.Vars, r15.Cells, r20) hm
    · refine ⟨_, rfl, ?_⟩
      refine TL_alloc 53 z35 rfl rfl rfl rfl rfl rfl rfl ?_
      refine TL_nil ?_
      refine TZ_one 3 (by kernel_rfl) rfl ?_
      refine TL_callO [(1000, 58), (1001, 59)] (c_spec_l03Own p1.State r15 hr15) Try.call135 rfl rfl rfl rfl rfl rfl rfl rfl rfl rfl rfl rfl rfl ?_
      refine TL_nil ?_
      refine TZ_one 8 (by kernel_rfl) rfl ?_
      refine TL_callO [(1000, 60)] (c_spec_l00Own p1.Stack r20 hr20) Try.call137 rfl rfl rfl rfl rfl rfl rfl rfl rfl rfl rfl rfl rfl ?_
      refine TL_nil ?_
      refine TZ_pure 13 (by kernel_rfl) rfl rfl rfl rfl rfl (op_buildP pl35 z35 rfl rfl rfl rfl rfl) ?_
      refine TZ_one 15 (by kernel_rfl) rfl ?_
      refine TL_store_box sz35 rfl rfl rfl rfl rfl rfl rfl rfl rfl ?_
      refine TL_nil ?_
      refine TZ_done (by kernel_rfl) ?_
      refine T_keepH [0, 1, 4, 6] [11, 53, 58, 59, 60] rfl rfl rfl rfl (by rw [hF]; rfl) ?_
      refine T_ren [(11, 11), (53, 21), (58, 16), (59, 17), (60, 19)] rfl rfl rfl (by rw [hF]; rfl) ?_
      refine T_keepH [0, 1, 4, 6] [11, 16, 17, 19, 21] rfl rfl rfl rfl (by rw [hF]; rfl) ?_
      exact hj0 (r15.Vars, r15.Cells, r20) hm
end Go.Mod
