/- Printed by a program. -/
import Derived.Test.YtlijhkhbdfgapaaRows
import Derived.Test.YtlijhkhbdfgapaaAmZi
import Derived.Test.YtlijhkhbdfgapaaModTe
namespace Go.Mod
open Go Go.AM Go.Proofs
set_option linter.unusedVariables false
set_option linter.unusedSimpArgs false
set_option maxRecDepth 100000
set_option maxHeartbeats 8000000
def a_i64 (x : Int) : AV := .int .i64 x
def a_Term (x : Term) : AV := .agg [.int .i64 x.Const, .sl 1 (List.map a_i64 x.Coeffs)]
def aLa_i64 (x : List Int) : AV := .sl 1 (List.map a_i64 x)
def aLa_Term (x : List Term) : AV := .sl 2 (List.map a_Term x)

theorem ag2 : tyAgg Try.prog 2 = some false := by kernel_rfl
theorem ag24 : tyAgg Try.prog 24 = some false := by kernel_rfl
theorem ag26 : tyAgg Try.prog 26 = some true := by kernel_rfl
theorem ag35 : tyAgg Try.prog 35 = some true := by kernel_rfl
theorem el24 : tyElem Try.prog 24 = some (2, 1) := by kernel_rfl
theorem el43 : tyElem Try.prog 43 = some (26, 2) := by kernel_rfl
theorem el50 : tyElem Try.prog 50 = some (35, 2) := by kernel_rfl
theorem fa26_0 : tyField Try.prog 26 0 = some 0 := by kernel_rfl
theorem fa26_1 : tyField Try.prog 26 1 = some 1 := by kernel_rfl
theorem fa35_0 : tyField Try.prog 35 0 = some 0 := by kernel_rfl
theorem fa35_1 : tyField Try.prog 35 1 = some 1 := by kernel_rfl
theorem mix : Try.prog.follows .mixedOrders = true := by kernel_rfl
theorem pl26 : tyPlaces Try.prog 26 = some [(0, 1), (1, 1)] := by kernel_rfl
theorem sz2 : tySize Try.prog 2 = some 1 := by kernel_rfl
theorem sz24 : tySize Try.prog 24 = some 1 := by kernel_rfl
theorem sz26 : tySize Try.prog 26 = some 2 := by kernel_rfl
theorem sz35 : tySize Try.prog 35 = some 2 := by kernel_rfl
theorem z2 : tyZero Try.prog 2 = some (.int .i64 0, 1, 8) := by kernel_rfl
theorem z26 : tyZero Try.prog 26 = some (.agg #[.int .i64 0, .slice none 0 0], 2, 32) := by kernel_rfl

theorem c_laws_szInt64S (p0 : List Int) (p1 : Int) (out : Int) (hm : m_laws_szInt64S p0 p1 = some out) : ACall Try.prog 67 [.sl 1 (List.map a_i64 p0), .int .i64 p1] [] (.int .i64 out) [] := by
  refine ACall.intro Try.func67 rfl Try.ntmps67 rfl (fun F hF => ?_)
  unfold m_laws_szInt64S at hm
  refine T_seq ?_
  refine T_region ?_
  refine TL_pure rfl rfl rfl rfl (op_assign rfl) ?_
  refine TL_nil ?_
  refine T_seq ?_
  refine T_region ?_
  refine TL_pure rfl rfl rfl rfl (op_move rfl) ?_
  refine TL_pure rfl rfl rfl rfl (op_move rfl) ?_
  refine TL_pure rfl rfl rfl rfl (op_lenT Try.underlying24 rfl (List.length_map _)) ?_
  refine TL_fact (fun _ _ _ hr => RelP.slLen (i := 6) rfl hr) (fun hlen7 => ?_)
  rw [List.length_map] at hlen7
  refine TL_pure rfl rfl rfl rfl (op_subW rfl rfl) ?_
  refine TL_pure rfl rfl rfl rfl (op_assign rfl) ?_
  refine TL_nil ?_
  refine T_seq ?_
  refine T_seq ?_
  refine T_region ?_
  refine TL_pure rfl rfl rfl rfl (op_move rfl) ?_
  refine TL_pure rfl rfl rfl rfl (op_lss rfl rfl) ?_
  refine TL_nil ?_
  refine T_cond rfl (fun hq => ?_) (fun hq => ?_)
  · replace hm := condT hq hm
    refine T_seq ?_
    refine T_region ?_
    refine TL_pure rfl rfl rfl rfl (op_assign rfl) ?_
    refine TL_nil ?_
    refine T_keepH [4] [] rfl rfl rfl rfl (by rw [hF]; rfl) ?_
    refine T_ret ?_
    obtain rfl := someI hm
    refine ⟨[_], [], ⟨rfl, trivial⟩, ?_, rfl, rfl, rfl, rfl⟩
    rfl
  · replace hm := condF hq hm
    refine T_skip ?_
    refine T_seq ?_
    refine T_region ?_
    refine TL_pure rfl rfl rfl rfl (op_move rfl) ?_
    refine TL_pure rfl rfl rfl rfl (op_assign rfl) ?_
    refine TL_nil ?_
    refine T_keepH [4] [] rfl rfl rfl rfl (by rw [hF]; rfl) ?_
    refine T_ret ?_
    obtain rfl := someI hm
    refine ⟨[_], [], ⟨rfl, trivial⟩, ?_, rfl, rfl, rfl, rfl⟩
    rfl

theorem c_laws_szTerm (p0 : Term) (p1 : Int) (out : Int) (hm : m_laws_szTerm p0 p1 = some out) : ACall Try.prog 24 [.agg [.int .i64 p0.Const, .sl 1 (List.map a_i64 p0.Coeffs)], .int .i64 p1] [] (.int .i64 out) [] := by
  refine ACall.intro Try.func24 rfl Try.ntmps24 rfl (fun F hF => ?_)
  unfold m_laws_szTerm at hm
  refine T_seq ?_
  refine T_region ?_
  refine TL_box 11 rfl rfl rfl rfl rfl rfl rfl ?_
  refine TL_pure rfl rfl rfl rfl (op_assign rfl) ?_
  refine TL_nil ?_
  refine T_seq ?_
  refine T_region ?_
  refine TL_pure rfl rfl rfl rfl (op_fieldAddr fa35_1 rfl rfl) ?_
  refine TL_pure rfl rfl rfl rfl (op_load_one ag24 rfl rfl) ?_
  refine TL_pure rfl rfl rfl rfl (op_move rfl) ?_
  obtain ⟨r8, hr8, hm⟩ := bindS hm
  refine TL_callF (c_laws_szInt64S p0.Coeffs p1 r8 hr8) Try.call67 rfl rfl rfl rfl rfl ?_
  refine TL_pure rfl rfl rfl rfl (op_assign rfl) ?_
  refine TL_nil ?_
  refine T_seq ?_
  refine T_seq ?_
  refine T_region ?_
  refine TL_pure rfl rfl rfl rfl (op_move rfl) ?_
  refine TL_pure rfl rfl rfl rfl (op_lss rfl rfl) ?_
  refine TL_nil ?_
  refine T_cond rfl (fun hq => ?_) (fun hq => ?_)
  · replace hm := condT hq hm
    refine T_seq ?_
    refine T_region ?_
    refine TL_pure rfl rfl rfl rfl (op_assign rfl) ?_
    refine TL_nil ?_
    refine T_keepH [4] [] rfl rfl rfl rfl (by rw [hF]; rfl) ?_
    refine T_ret ?_
    obtain rfl := someI hm
    refine ⟨[_], [], ⟨rfl, trivial⟩, ?_, rfl, rfl, rfl, rfl⟩
    rfl
  · replace hm := condF hq hm
    refine T_skip ?_
    refine T_seq ?_
    refine T_region ?_
    refine TL_pure rfl rfl rfl rfl (op_move rfl) ?_
    refine TL_pure rfl rfl rfl rfl (op_assign rfl) ?_
    refine TL_nil ?_
    refine T_keepH [4] [] rfl rfl rfl rfl (by rw [hF]; rfl) ?_
    refine T_ret ?_
    obtain rfl := someI hm
    refine ⟨[_], [], ⟨rfl, trivial⟩, ?_, rfl, rfl, rfl, rfl⟩
    rfl

theorem c_laws_szTermS (p0 : List Term) (p1 : Int) (out : Int) (hm : m_laws_szTermS p0 p1 = some out) : ACall Try.prog 39 [.sl 2 (List.map a_Term p0), .int .i64 p1] [] (.int .i64 out) [] := by
  refine ACall.intro Try.func39 rfl Try.ntmps39 rfl (fun F hF => ?_)
  unfold m_laws_szTermS at hm
  refine T_seq ?_
  refine T_region ?_
  refine TL_pure rfl rfl rfl rfl (op_assign rfl) ?_
  refine TL_nil ?_
  refine T_seq ?_
  refine T_region ?_
  refine TL_pure rfl rfl rfl rfl (op_move rfl) ?_
  refine TL_pure rfl rfl rfl rfl (op_move rfl) ?_
  refine TL_pure rfl rfl rfl rfl (op_lenT Try.underlying50 rfl (List.length_map _)) ?_
  refine TL_fact (fun _ _ _ hr => RelP.slLen (i := 7) rfl hr) (fun hlen8 => ?_)
  rw [List.length_map] at hlen8
  refine TL_pure rfl rfl rfl rfl (op_subW rfl rfl) ?_
  refine TL_pure rfl rfl rfl rfl (op_assign rfl) ?_
  refine TL_nil ?_
  refine T_seq ?_
  refine T_seq ?_
  refine T_region ?_
  refine TL_pure rfl rfl rfl rfl (op_move rfl) ?_
  refine TL_pure rfl rfl rfl rfl (op_lss rfl rfl) ?_
  refine TL_nil ?_
  refine T_cond rfl (fun hq => ?_) (fun hq => ?_)
  · replace hm := condT hq hm
    refine T_seq ?_
    refine T_region ?_
    refine TL_pure rfl rfl rfl rfl (op_assign rfl) ?_
    refine TL_nil ?_
    refine T_keepH [4] [] rfl rfl rfl rfl (by rw [hF]; rfl) ?_
    refine T_ret ?_
    obtain rfl := someI hm
    refine ⟨[_], [], ⟨rfl, trivial⟩, ?_, rfl, rfl, rfl, rfl⟩
    rfl
  · replace hm := condF hq hm
    refine T_skip ?_
    refine T_seq ?_
    refine T_seq ?_
    refine T_region ?_
    refine TL_pure rfl rfl rfl rfl (op_assign rfl) ?_
    refine TL_nil ?_
    refine T_block ?_
    refine T_keepH [0, 1, 5] [] rfl rfl rfl rfl (by rw [hF]; rfl) ?_
    refine T_loop ?_
    obtain ⟨u0, hl0, hm⟩ := bindS hm
    refine TR_iter2 (m_laws_szTermS_L0 p0) (fun (s0 : Int × Int) => ⟨[(0, .sl 2 (List.map a_Term p0)), (1, .int .i64 s0.1), (5, .int .i64 s0.2)], []⟩) (fun u0 => match u0 with | .inl u0 => .exit 0 | .inr u0 => .ret) (fun u0 => match u0 with | .inl u0 => ⟨[(1, .int .i64 u0)], []⟩ | .inr u0 => ⟨[(4, .int .i64 u0)], []⟩) (fun u0 => m_laws_szTermS_A0 u0 = some out) hl0 hm (fun u0 hm => ?_) (fun hx0 s0 c0 hm hc0 => ?_)
    · rcases u0 with u0 | u0
      · unfold m_laws_szTermS_A0 at hm
        refine T_seq ?_
        refine T_region ?_
        refine TL_pure rfl rfl rfl rfl (op_move rfl) ?_
        refine TL_pure rfl rfl rfl rfl (op_assign rfl) ?_
        refine TL_nil ?_
        refine T_keepH [4] [] rfl rfl rfl rfl (by rw [hF]; rfl) ?_
        refine T_ret ?_
        obtain rfl := someI hm
        refine ⟨[_], [], ⟨rfl, trivial⟩, ?_, rfl, rfl, rfl, rfl⟩
        rfl
      · unfold m_laws_szTermS_A0 at hm
        obtain rfl := someI hm
        refine ⟨[_], [], ⟨rfl, trivial⟩, ?_, rfl, rfl, rfl, rfl⟩
        rfl
    · unfold m_laws_szTermS_L0 at hm
      refine T_seq ?_
      refine T_seq ?_
      refine T_region ?_
      refine TL_pure rfl rfl rfl rfl (op_move rfl) ?_
      refine TL_pure rfl rfl rfl rfl (op_move rfl) ?_
      refine TL_pure rfl rfl rfl rfl (op_lenT Try.underlying50 rfl (List.length_map _)) ?_
      refine TL_pure rfl rfl rfl rfl (op_lss rfl rfl) ?_
      refine TL_nil ?_
      refine T_cond rfl (fun hq => ?_) (fun hq => ?_)
      · replace hm := condT hq hm
        refine T_skip ?_
        refine T_seq ?_
        refine T_block ?_
        refine T_seq ?_
        refine T_region ?_
        refine TL_pure rfl rfl rfl rfl (op_move rfl) ?_
        refine TL_pure rfl rfl rfl rfl (op_move rfl) ?_
        obtain ⟨x20, hx20, hm⟩ := bindS hm
        refine TL_pure rfl rfl rfl rfl (op_indexT el50 rfl rfl hx20 rfl) ?_
        refine TL_pure rfl rfl rfl rfl (op_load_agg ag35 sz35 rfl rfl rfl) ?_
        refine TL_pure rfl rfl rfl rfl (op_move rfl) ?_
        obtain ⟨r23, hr23, hm⟩ := bindS hm
        refine TL_callF (c_laws_szTerm x20 s0.1 r23 hr23) Try.call24 rfl rfl rfl rfl rfl ?_
        refine TL_pure rfl rfl rfl rfl (op_assign rfl) ?_
        refine TL_nil ?_
        refine T_seq ?_
        refine T_region ?_
        refine TL_pure rfl rfl rfl rfl (op_move rfl) ?_
        refine TL_pure rfl rfl rfl rfl (op_lss rfl rfl) ?_
        refine TL_nil ?_
        refine T_cond rfl (fun hq => ?_) (fun hq => ?_)
        · replace hm := condT hq hm
          refine T_seq ?_
          refine T_region ?_
          refine TL_pure rfl rfl rfl rfl (op_assign rfl) ?_
          refine TL_nil ?_
          refine T_keepH [4] [] rfl rfl rfl rfl (by rw [hF]; rfl) ?_
          refine T_ret ?_
          obtain rfl := someI hm
          have hn := CtlOK_out hc0
          exact hx0 (.inr (-1 : Int)) hn
        · replace hm := condF hq hm
          refine T_skip ?_
          refine T_region ?_
          refine TL_pure rfl rfl rfl rfl (op_move rfl) ?_
          refine TL_pure rfl rfl rfl rfl (op_addW rfl rfl) ?_
          refine TL_pure rfl rfl rfl rfl (op_assign rfl) ?_
          refine TL_nil ?_
          refine TR_keepH [0, 1, 5] [] rfl rfl rfl rfl (by rw [hF]; rfl) ?_
          obtain rfl := someI hm
          have hn := CtlOK_next hc0
          exact hn _ rfl
      · replace hm := condF hq hm
        refine T_keepH [1] [] rfl rfl rfl rfl (by rw [hF]; rfl) ?_
        refine T_exit ?_
        obtain rfl := someI hm
        have hn := CtlOK_out hc0
        exact hx0 (.inl s0.1) hn

theorem c_laws_toInt64S (p0 : List Int) (out : List Int) (hm : m_laws_toInt64S p0 = some out) : ACall Try.prog 42 [.sl 1 (List.map a_i64 p0)] [] (.ow 1000) [(1000, .arr ⟨false, true⟩ 1 2 (List.map a_i64 out))] := by
  refine ACall.intro Try.func42 rfl Try.ntmps42 rfl (fun F hF => ?_)
  unfold m_laws_toInt64S at hm
  refine T_seq ?_
  refine T_region ?_
  refine TL_pure rfl rfl rfl rfl (op_assign rfl) ?_
  refine TL_nil ?_
  refine T_seq ?_
  refine T_region ?_
  refine TL_pure rfl rfl rfl rfl (op_move rfl) ?_
  refine TL_pure rfl rfl rfl rfl (op_lenT Try.underlying24 rfl (List.length_map _)) ?_
  refine TL_fact (fun _ _ _ hr => RelP.slLen (i := 5) rfl hr) (fun hlen6 => ?_)
  rw [List.length_map] at hlen6
  obtain ⟨k7, hk7, hm⟩ := bindS hm
  refine TL_make 11 (n := k7) el24 z2 rfl rfl rfl rfl rfl rfl (makeI_spec hk7).1 (makeI_spec hk7).1 (makeI_spec hk7).2 rfl rfl rfl rfl ?_
  refine TL_nils 11 (List.map a_i64 (List.replicate k7 (0 : Int))) (by rw [hF]; rfl) rfl (ElR.rep (z := .int .i64 (0 : Int)) (g := a_i64) (x := (0 : Int)) ⟨⟨rfl, rfl⟩, trivial⟩ k7) rfl ?_
  refine TL_pure rfl rfl rfl rfl (op_assign rfl) ?_
  refine TL_nil ?_
  refine T_seq ?_
  refine T_seq ?_
  refine T_region ?_
  refine TL_pure rfl rfl rfl rfl (op_assign rfl) ?_
  refine TL_nil ?_
  refine T_block ?_
  refine T_keepH [0, 3, 4] [11] rfl rfl rfl rfl (by rw [hF]; rfl) ?_
  refine T_loop ?_
  obtain ⟨u0, hl0, hm⟩ := bindS hm
  refine TR_iter2 (m_laws_toInt64S_L0 p0) (fun (s0 : (List Int) × Int) => ⟨[(0, .sl 1 (List.map a_i64 p0)), (3, .ow 11), (4, .int .i64 s0.2)], [(11, .arr ⟨false, false⟩ 1 2 (List.map a_i64 s0.1))]⟩) (fun u0 => .exit 0) (fun u0 => ⟨[(3, .ow 11)], [(11, .arr ⟨false, false⟩ 1 2 (List.map a_i64 u0))]⟩) (fun u0 => m_laws_toInt64S_A0 u0 = some out) hl0 hm (fun u0 hm => ?_) (fun hx0 s0 c0 hm hc0 => ?_)
  · unfold m_laws_toInt64S_A0 at hm
    refine T_seq ?_
    refine T_region ?_
    refine TL_pure rfl rfl rfl rfl (op_move rfl) ?_
    refine TL_pure rfl rfl rfl rfl (op_assign rfl) ?_
    refine TL_nil ?_
    refine T_keepH [2] [11] rfl rfl rfl rfl (by rw [hF]; rfl) ?_
    refine T_deepen 11 (p' := false) (List.map a_i64 u0) (by rw [hF]; rfl) rfl (ElR.map (f := a_i64) (g := a_i64) (fun _ => ⟨⟨rfl, rfl⟩, trivial⟩) u0) rfl rfl rfl ?_
    refine T_ren [(11, 1000)] rfl rfl rfl (by rw [hF]; rfl) ?_
    refine T_ret ?_
    obtain rfl := someI hm
    refine ⟨[_], [1000], ⟨rfl, trivial⟩, ?_, rfl, rfl, rfl, rfl⟩
    rfl
  · unfold m_laws_toInt64S_L0 at hm
    refine T_seq ?_
    refine T_seq ?_
    refine T_region ?_
    refine TL_pure rfl rfl rfl rfl (op_move rfl) ?_
    refine TL_pure rfl rfl rfl rfl (op_move rfl) ?_
    refine TL_pure rfl rfl rfl rfl (op_lenT Try.underlying24 rfl (List.length_map _)) ?_
    refine TL_pure rfl rfl rfl rfl (op_lss rfl rfl) ?_
    refine TL_nil ?_
    refine T_cond rfl (fun hq => ?_) (fun hq => ?_)
    · replace hm := condT hq hm
      refine T_skip ?_
      refine T_seq ?_
      refine T_block ?_
      refine T_region ?_
      refine TL_pure rfl rfl rfl rfl (op_move rfl) ?_
      refine TL_pure rfl rfl rfl rfl (op_move rfl) ?_
      refine TL_pure rfl rfl rfl rfl (op_move rfl) ?_
      refine TL_pure rfl rfl rfl rfl (op_move rfl) ?_
      obtain ⟨x18, hx18, hm⟩ := bindS hm
      refine TL_pure rfl rfl rfl rfl (op_indexT el24 rfl rfl hx18 rfl) ?_
      refine TL_pure rfl rfl rfl rfl (op_load_one ag2 rfl rfl) ?_
      obtain ⟨x20, hx20, hm⟩ := bindS hm
      refine TL_pure rfl rfl rfl rfl (op_indexO el24 rfl rfl rfl hx20) ?_
      refine TL_storeT sz2 rfl rfl ((getI_spec hx20).2) (v' := x18) rfl rfl rfl rfl rfl rfl rfl rfl rfl rfl ?_
      refine TL_nil ?_
      refine T_region ?_
      refine TL_pure rfl rfl rfl rfl (op_move rfl) ?_
      refine TL_pure rfl rfl rfl rfl (op_addW rfl rfl) ?_
      refine TL_pure rfl rfl rfl rfl (op_assign rfl) ?_
      refine TL_nil ?_
      refine TR_keepH [0, 3, 4] [11] rfl rfl rfl rfl (by rw [hF]; rfl) ?_
      obtain rfl := someI hm
      have hn := CtlOK_next hc0
      exact hn _ rfl
    · replace hm := condF hq hm
      refine T_keepH [3] [11] rfl rfl rfl rfl (by rw [hF]; rfl) ?_
      refine T_exit ?_
      obtain rfl := someI hm
      have hn := CtlOK_out hc0
      exact hx0 s0.1 hn

theorem c_laws_toTerm (p0 : Term) (out : Term) (hm : m_laws_toTerm p0 = some out) : ACall Try.prog 26 [.agg [.int .i64 p0.Const, .sl 1 (List.map a_i64 p0.Coeffs)]] [] (.agg [.int .i64 out.Const, .ow 1000]) [(1000, .arr ⟨false, true⟩ 1 2 (List.map a_i64 out.Coeffs))] := by
  refine ACall.intro Try.func26 rfl Try.ntmps26 rfl (fun F hF => ?_)
  unfold m_laws_toTerm at hm
  refine T_seq ?_
  refine T_region ?_
  refine TL_box 11 rfl rfl rfl rfl rfl rfl rfl ?_
  refine TL_alloc 12 z26 rfl rfl rfl rfl rfl rfl rfl ?_
  refine TL_nil ?_
  refine T_seq ?_
  refine T_region ?_
  refine TL_alloc 13 z26 rfl rfl rfl rfl rfl rfl rfl ?_
  refine TL_nil ?_
  refine T_seq ?_
  refine T_region ?_
  refine TL_pure rfl rfl rfl rfl (op_fieldAddr fa35_0 rfl rfl) ?_
  refine TL_pure rfl rfl rfl rfl (op_load_one ag2 rfl rfl) ?_
  refine TL_pure rfl rfl rfl rfl (op_fieldAddr fa26_0 rfl rfl) ?_
  refine TL_store_box sz2 rfl rfl rfl rfl rfl rfl rfl rfl rfl ?_
  refine TL_nil ?_
  refine T_seq ?_
  refine T_region ?_
  refine TL_pure rfl rfl rfl rfl (op_fieldAddr fa35_1 rfl rfl) ?_
  refine TL_pure rfl rfl rfl rfl (op_load_one ag24 rfl rfl) ?_
  obtain ⟨r9, hr9, hm⟩ := bindS hm
  refine TL_callO [(1000, 14)] (c_laws_toInt64S p0.Coeffs r9 hr9) Try.call42 rfl rfl rfl rfl rfl rfl rfl rfl rfl rfl rfl rfl rfl ?_
  refine TL_pure rfl rfl rfl rfl (op_fieldAddr fa26_1 rfl rfl) ?_
  refine TL_store_box sz24 rfl rfl rfl rfl rfl rfl rfl rfl rfl ?_
  refine TL_nil ?_
  refine T_seq ?_
  refine T_region ?_
  refine TL_pure rfl rfl rfl rfl (op_load_agg ag26 sz26 rfl rfl rfl) ?_
  refine TL_store_box sz26 rfl rfl rfl rfl rfl rfl rfl rfl rfl ?_
  refine TL_nil ?_
  refine T_keepH [2] [12, 14] rfl rfl rfl rfl (by rw [hF]; rfl) ?_
  refine T_ren [(12, 12), (14, 1000)] rfl rfl rfl (by rw [hF]; rfl) ?_
  refine T_ret ?_
  obtain rfl := someI hm
  refine ⟨[_], [1000], ⟨⟨_, _, rfl, rfl, .inr ⟨ag26, _, _, sz26, rfl, rfl⟩⟩, trivial⟩, ?_, rfl, rfl, rfl, rfl⟩
  rfl

theorem c_laws_toTermS (p0 : List Term) (out : List Term) (hm : m_laws_toTermS p0 = some out) : ACall Try.prog 41 [.sl 2 (List.map a_Term p0)] [] (.ow 1000) [(1000, .arr ⟨false, true⟩ 2 26 (List.map a_Term out))] := by
  refine ACall.intro Try.func41 rfl Try.ntmps41 rfl (fun F hF => ?_)
  unfold m_laws_toTermS at hm
  refine T_seq ?_
  refine T_region ?_
  refine TL_pure rfl rfl rfl rfl (op_assign rfl) ?_
  refine TL_nil ?_
  refine T_seq ?_
  refine T_region ?_
  refine TL_pure rfl rfl rfl rfl (op_move rfl) ?_
  refine TL_pure rfl rfl rfl rfl (op_lenT Try.underlying50 rfl (List.length_map _)) ?_
  refine TL_fact (fun _ _ _ hr => RelP.slLen (i := 5) rfl hr) (fun hlen6 => ?_)
  rw [List.length_map] at hlen6
  obtain ⟨k7, hk7, hm⟩ := bindS hm
  refine TL_make 11 (n := k7) el43 z26 rfl rfl rfl rfl rfl rfl (makeI_spec hk7).1 (makeI_spec hk7).1 (makeI_spec hk7).2 rfl rfl rfl rfl ?_
  refine TL_deepen 11 (p' := false) (List.map a_Term (List.replicate k7 (Term.mk (0 : Int) ([] : List Int)))) (by rw [hF]; rfl) rfl (ElR.rep (z := .agg [.int .i64 (0 : Int), .snil]) (g := a_Term) (x := (Term.mk (0 : Int) ([] : List Int))) ⟨⟨rfl, rfl⟩, ⟨rfl, trivial⟩⟩ k7) rfl rfl rfl ?_
  refine TL_pure rfl rfl rfl rfl (op_assign rfl) ?_
  refine TL_nil ?_
  refine T_seq ?_
  refine T_seq ?_
  refine T_region ?_
  refine TL_pure rfl rfl rfl rfl (op_assign rfl) ?_
  refine TL_nil ?_
  refine T_block ?_
  refine T_keepH [0, 3, 4] [11] rfl rfl rfl rfl (by rw [hF]; rfl) ?_
  refine T_loop ?_
  obtain ⟨u0, hl0, hm⟩ := bindS hm
  refine TR_iter2 (m_laws_toTermS_L0 p0) (fun (s0 : (List Term) × Int) => ⟨[(0, .sl 2 (List.map a_Term p0)), (3, .ow 11), (4, .int .i64 s0.2)], [(11, .arr ⟨false, true⟩ 2 26 (List.map a_Term s0.1))]⟩) (fun u0 => .exit 0) (fun u0 => ⟨[(3, .ow 11)], [(11, .arr ⟨false, true⟩ 2 26 (List.map a_Term u0))]⟩) (fun u0 => m_laws_toTermS_A0 u0 = some out) hl0 hm (fun u0 hm => ?_) (fun hx0 s0 c0 hm hc0 => ?_)
  · unfold m_laws_toTermS_A0 at hm
    refine T_seq ?_
    refine T_region ?_
    refine TL_pure rfl rfl rfl rfl (op_move rfl) ?_
    refine TL_pure rfl rfl rfl rfl (op_assign rfl) ?_
    refine TL_nil ?_
    refine T_keepH [2] [11] rfl rfl rfl rfl (by rw [hF]; rfl) ?_
    refine T_ren [(11, 1000)] rfl rfl rfl (by rw [hF]; rfl) ?_
    refine T_ret ?_
    obtain rfl := someI hm
    refine ⟨[_], [1000], ⟨rfl, trivial⟩, ?_, rfl, rfl, rfl, rfl⟩
    rfl
  · unfold m_laws_toTermS_L0 at hm
    refine T_seq ?_
    refine T_seq ?_
    refine T_region ?_
    refine TL_pure rfl rfl rfl rfl (op_move rfl) ?_
    refine TL_pure rfl rfl rfl rfl (op_move rfl) ?_
    refine TL_pure rfl rfl rfl rfl (op_lenT Try.underlying50 rfl (List.length_map _)) ?_
    refine TL_pure rfl rfl rfl rfl (op_lss rfl rfl) ?_
    refine TL_nil ?_
    refine T_cond rfl (fun hq => ?_) (fun hq => ?_)
    · replace hm := condT hq hm
      refine T_skip ?_
      refine T_seq ?_
      refine T_block ?_
      refine T_region ?_
      refine TL_pure rfl rfl rfl rfl (op_move rfl) ?_
      refine TL_pure rfl rfl rfl rfl (op_move rfl) ?_
      refine TL_pure rfl rfl rfl rfl (op_move rfl) ?_
      refine TL_pure rfl rfl rfl rfl (op_move rfl) ?_
      obtain ⟨x18, hx18, hm⟩ := bindS hm
      refine TL_pure rfl rfl rfl rfl (op_indexT el50 rfl rfl hx18 rfl) ?_
      refine TL_pure rfl rfl rfl rfl (op_load_agg ag35 sz35 rfl rfl rfl) ?_
      obtain ⟨r20, hr20, hm⟩ := bindS hm
      refine TL_callO [(1000, 14)] (c_laws_toTerm x18 r20 hr20) Try.call26 rfl rfl rfl rfl rfl rfl rfl rfl rfl rfl rfl rfl rfl ?_
      obtain ⟨x21, hx21, hm⟩ := bindS hm
      refine TL_pure rfl rfl rfl rfl (op_indexO el43 rfl rfl rfl hx21) ?_
      refine TL_storeXT (ids := [14]) sz26 rfl rfl ((getI_spec hx21).2) (v' := r20) rfl rfl rfl rfl rfl rfl rfl (by rw [hF]; intro j hj; simp only [List.mem_cons, List.not_mem_nil, or_false] at hj; rcases hj with rfl <;> rfl) rfl rfl rfl rfl rfl rfl rfl ?_
      refine TL_nil ?_
      refine T_region ?_
      refine TL_pure rfl rfl rfl rfl (op_move rfl) ?_
      refine TL_pure rfl rfl rfl rfl (op_addW rfl rfl) ?_
      refine TL_pure rfl rfl rfl rfl (op_assign rfl) ?_
      refine TL_nil ?_
      refine TR_keepH [0, 3, 4] [11] rfl rfl rfl rfl (by rw [hF]; rfl) ?_
      obtain rfl := someI hm
      have hn := CtlOK_next hc0
      exact hn _ rfl
    · replace hm := condF hq hm
      refine T_keepH [3] [11] rfl rfl rfl rfl (by rw [hF]; rfl) ?_
      refine T_exit ?_
      obtain rfl := someI hm
      have hn := CtlOK_out hc0
      exact hx0 s0.1 hn

theorem c_spec_l00In (p0 : Int) (p1 : Int) (p2 : Int) (out : Bool) (hm : m_spec_l00In p0 p1 p2 = some out) : ACall Try.prog 98 [.int .i64 p0, .int .i64 p1, .int .i64 p2] [] (.bool out) [] := by
  refine ACall.intro Try.func98 rfl Try.ntmps98 rfl (fun F hF => ?_)
  unfold m_spec_l00In at hm
  refine T_seq ?_
  refine T_region ?_
  refine TL_pure rfl rfl rfl rfl (op_assign rfl) ?_
  refine TL_nil ?_
  refine T_seq ?_
  refine T_region ?_
  refine TL_pure rfl rfl rfl rfl (op_move rfl) ?_
  refine TL_pure rfl rfl rfl rfl (op_move rfl) ?_
  refine TL_pure rfl rfl rfl rfl (op_geq rfl rfl) ?_
  refine TL_pure rfl rfl rfl rfl (op_move rfl) ?_
  refine TL_join 4 (fun _ : Unit => ⟨[(14, .bool ((decide (p1 ≤ p0)) && (decide (p0 ≤ p2))))], []⟩) (fun _ => True) (fun _ _ => ?_) (fun hjj => ?_)
  · refine TL_pure rfl rfl rfl rfl (op_assign rfl) ?_
    refine TL_nil ?_
    refine T_keepH [6] [] rfl rfl rfl rfl (by rw [hF]; rfl) ?_
    refine T_ret ?_
    obtain rfl := someI hm
    refine ⟨[_], [], ⟨rfl, trivial⟩, ?_, rfl, rfl, rfl, rfl⟩
    rfl
  · refine TL_split 10 rfl rfl rfl (fun hq => ?_) (fun hq => ?_)
    · refine TL_want rfl rfl ?_
      refine TL_pure rfl rfl rfl rfl (op_move rfl) ?_
      refine TL_want rfl rfl ?_
      refine TL_pure rfl rfl rfl rfl (op_move rfl) ?_
      refine TL_want rfl rfl ?_
      refine TL_pure rfl rfl rfl rfl (op_leq rfl rfl) ?_
      refine TL_pure rfl rfl rfl rfl (op_pick_true rfl rfl) ?_
      refine TL_keepH [14] [] rfl rfl rfl rfl (by rw [hF]; rfl) ?_
      exact TL_cast _ (by rw [hq]; rfl) (hjj () trivial)
    · refine TL_pass rfl rfl rfl rfl rfl rfl rfl ?_
      refine TL_pass rfl rfl rfl rfl rfl rfl rfl ?_
      refine TL_pass rfl rfl rfl rfl rfl rfl rfl ?_
      refine TL_pure rfl rfl rfl rfl (op_pick_false rfl rfl) ?_
      refine TL_keepH [14] [] rfl rfl rfl rfl (by rw [hF]; rfl) ?_
      exact TL_cast _ (by rw [hq]; rfl) (hjj () trivial)

theorem c_spec_l02Number (p0 : Int) (out : Bool) (hm : m_spec_l02Number p0 = some out) : ACall Try.prog 71 [.int .i64 p0] [] (.bool out) [] := by
  refine ACall.intro Try.func71 rfl Try.ntmps71 rfl (fun F hF => ?_)
  unfold m_spec_l02Number at hm
  refine T_seq ?_
  refine T_region ?_
  refine TL_pure rfl rfl rfl rfl (op_assign rfl) ?_
  refine TL_nil ?_
  refine T_seq ?_
  refine T_region ?_
  refine TL_pure rfl rfl rfl rfl (op_move rfl) ?_
  obtain ⟨r4, hr4, hm⟩ := bindS hm
  refine TL_callF (c_spec_l00In p0 (-1000000 : Int) (1000000 : Int) r4 hr4) Try.call98 rfl rfl rfl rfl rfl ?_
  refine TL_pure rfl rfl rfl rfl (op_assign rfl) ?_
  refine TL_nil ?_
  refine T_keepH [2] [] rfl rfl rfl rfl (by rw [hF]; rfl) ?_
  refine T_ret ?_
  obtain rfl := someI hm
  refine ⟨[_], [], ⟨rfl, trivial⟩, ?_, rfl, rfl, rfl, rfl⟩
  rfl

theorem c_spec_l02Is (p0 : Term) (out : Bool) (hm : m_spec_l02Is p0 = some out) : ACall Try.prog 68 [.cp [.int .i64 p0.Const, .sl 1 (List.map a_i64 p0.Coeffs)]] [] (.bool out) [] := by
  refine ACall.intro Try.func68 rfl Try.ntmps68 rfl (fun F hF => ?_)
  unfold m_spec_l02Is at hm
  refine T_seq ?_
  refine T_region ?_
  refine TL_pure rfl rfl rfl rfl (op_assign rfl) ?_
  refine TL_nil ?_
  refine T_seq ?_
  refine T_region ?_
  refine TL_pure rfl rfl rfl rfl (op_move rfl) ?_
  refine TL_pure rfl rfl rfl rfl (op_nilCheck rfl rfl) ?_
  refine TL_pure rfl rfl rfl rfl (op_fieldAddr fa26_1 rfl rfl) ?_
  refine TL_pure rfl rfl rfl rfl (op_load_one ag24 rfl rfl) ?_
  refine TL_pure rfl rfl rfl rfl (op_lenT Try.underlying24 rfl (List.length_map _)) ?_
  refine TL_fact (fun _ _ _ hr => RelP.slLen (i := 8) rfl hr) (fun hlen9 => ?_)
  rw [List.length_map] at hlen9
  refine TL_pure rfl rfl rfl rfl (op_assign rfl) ?_
  refine TL_nil ?_
  refine T_join (fun (j0 : Unit) => ⟨[(0, .cp [.int .i64 p0.Const, .sl 1 (List.map a_i64 p0.Coeffs)]), (3, .int .i64 (p0.Coeffs.length : Int))], []⟩) (fun j0 => m_spec_l02Is_J0 p0 j0 = some out) (fun j0 hm => ?_) (fun hj0 => ?_)
  · unfold m_spec_l02Is_J0 at hm
    refine T_seq ?_
    refine T_seq ?_
    refine T_region ?_
    refine TL_pure rfl rfl rfl rfl (op_assign rfl) ?_
    refine TL_nil ?_
    refine T_block ?_
    refine T_keepH [0, 3, 4] [] rfl rfl rfl rfl (by rw [hF]; rfl) ?_
    refine T_loop ?_
    obtain ⟨u0, hl0, hm⟩ := bindS hm
    refine TR_iter2 (m_spec_l02Is_L0 p0) (fun (s0 : Int) => ⟨[(0, .cp [.int .i64 p0.Const, .sl 1 (List.map a_i64 p0.Coeffs)]), (3, .int .i64 (p0.Coeffs.length : Int)), (4, .int .i64 s0)], []⟩) (fun u0 => match u0 with | .inl u0 => .exit 0 | .inr u0 => .ret) (fun u0 => match u0 with | .inl u0 => ⟨[], []⟩ | .inr u0 => ⟨[(2, .bool u0)], []⟩) (fun u0 => m_spec_l02Is_A0 u0 = some out) hl0 hm (fun u0 hm => ?_) (fun hx0 s0 c0 hm hc0 => ?_)
    · rcases u0 with u0 | u0
      · unfold m_spec_l02Is_A0 at hm
        refine T_seq ?_
        refine T_region ?_
        refine TL_pure rfl rfl rfl rfl (op_assign rfl) ?_
        refine TL_nil ?_
        refine T_keepH [2] [] rfl rfl rfl rfl (by rw [hF]; rfl) ?_
        refine T_ret ?_
        obtain rfl := someI hm
        refine ⟨[_], [], ⟨rfl, trivial⟩, ?_, rfl, rfl, rfl, rfl⟩
        rfl
      · unfold m_spec_l02Is_A0 at hm
        obtain rfl := someI hm
        refine ⟨[_], [], ⟨rfl, trivial⟩, ?_, rfl, rfl, rfl, rfl⟩
        rfl
    · unfold m_spec_l02Is_L0 at hm
      refine T_seq ?_
      refine T_seq ?_
      refine T_region ?_
      refine TL_pure rfl rfl rfl rfl (op_move rfl) ?_
      refine TL_pure rfl rfl rfl rfl (op_move rfl) ?_
      refine TL_pure rfl rfl rfl rfl (op_lss rfl rfl) ?_
      refine TL_nil ?_
      refine T_cond rfl (fun hq => ?_) (fun hq => ?_)
      · replace hm := condT hq hm
        refine T_skip ?_
        refine T_seq ?_
        refine T_block ?_
        refine T_seq ?_
        refine T_region ?_
        refine TL_pure rfl rfl rfl rfl (op_move rfl) ?_
        refine TL_pure rfl rfl rfl rfl (op_nilCheck rfl rfl) ?_
        refine TL_pure rfl rfl rfl rfl (op_fieldAddr fa26_1 rfl rfl) ?_
        refine TL_pure rfl rfl rfl rfl (op_load_one ag24 rfl rfl) ?_
        refine TL_pure rfl rfl rfl rfl (op_move rfl) ?_
        obtain ⟨x45, hx45, hm⟩ := bindS hm
        refine TL_pure rfl rfl rfl rfl (op_indexT el24 rfl rfl hx45 rfl) ?_
        refine TL_pure rfl rfl rfl rfl (op_load_one ag2 rfl rfl) ?_
        obtain ⟨r47, hr47, hm⟩ := bindS hm
        refine TL_callF (c_spec_l02Number x45 r47 hr47) Try.call71 rfl rfl rfl rfl rfl ?_
        refine TL_pure rfl rfl rfl rfl (op_not rfl) ?_
        refine TL_nil ?_
        refine T_cond rfl (fun hq => ?_) (fun hq => ?_)
        · replace hm := condT hq hm
          refine T_seq ?_
          refine T_region ?_
          refine TL_pure rfl rfl rfl rfl (op_assign rfl) ?_
          refine TL_nil ?_
          refine T_keepH [2] [] rfl rfl rfl rfl (by rw [hF]; rfl) ?_
          refine T_ret ?_
          obtain rfl := someI hm
          have hn := CtlOK_out hc0
          exact hx0 (.inr false) hn
        · replace hm := condF hq hm
          refine T_skip ?_
          refine T_region ?_
          refine TL_pure rfl rfl rfl rfl (op_move rfl) ?_
          refine TL_pure rfl rfl rfl rfl (op_addW rfl rfl) ?_
          refine TL_pure rfl rfl rfl rfl (op_assign rfl) ?_
          refine TL_nil ?_
          refine TR_keepH [0, 3, 4] [] rfl rfl rfl rfl (by rw [hF]; rfl) ?_
          obtain rfl := someI hm
          have hn := CtlOK_next hc0
          exact hn _ rfl
      · replace hm := condF hq hm
        refine T_keepH [] [] rfl rfl rfl rfl (by rw [hF]; rfl) ?_
        refine T_exit ?_
        obtain rfl := someI hm
        have hn := CtlOK_out hc0
        exact hx0 (.inl ()) hn
  · refine T_seq ?_
    refine T_region ?_
    refine TL_pure rfl rfl rfl rfl (op_move rfl) ?_
    refine TL_pure rfl rfl rfl rfl (op_nilCheck rfl rfl) ?_
    refine TL_pure rfl rfl rfl rfl (op_fieldAddr fa26_0 rfl rfl) ?_
    refine TL_pure rfl rfl rfl rfl (op_load_one ag2 rfl rfl) ?_
    obtain ⟨r14, hr14, hm⟩ := bindS hm
    refine TL_callF (c_spec_l02Number p0.Const r14 hr14) Try.call71 rfl rfl rfl rfl rfl ?_
    refine TL_pure rfl rfl rfl rfl (op_not rfl) ?_
    refine TL_pure rfl rfl rfl rfl (op_move rfl) ?_
    refine TL_join 3 (fun _ : Unit => ⟨[(0, .cp [.int .i64 p0.Const, .sl 1 (List.map a_i64 p0.Coeffs)]), (3, .int .i64 (p0.Coeffs.length : Int)), (19, .bool ((!r14) || (decide ((10 : Int) < (p0.Coeffs.length : Int)))))], []⟩) (fun _ => True) (fun _ _ => ?_) (fun hjj => ?_)
    · refine TL_pure rfl rfl rfl rfl (op_move rfl) ?_
      refine TL_split 20 rfl rfl rfl (fun hq => ?_) (fun hq => ?_)
      · replace hm := condT hq hm
        refine TL_pass rfl rfl rfl rfl rfl rfl rfl ?_
        refine TL_pass rfl rfl rfl rfl rfl rfl rfl ?_
        refine TL_pass rfl rfl rfl rfl rfl rfl rfl ?_
        refine TL_pass2 rfl rfl rfl rfl rfl rfl ?_
        refine TL_pass2 rfl rfl rfl rfl rfl rfl ?_
        refine TL_pass2 rfl rfl rfl rfl rfl rfl ?_
        refine TL_pass2 rfl rfl rfl rfl rfl rfl ?_
        refine TL_pass2 rfl rfl rfl rfl rfl rfl ?_
        refine TL_pass2 rfl rfl rfl rfl rfl rfl ?_
        refine TL_pass2 rfl rfl rfl rfl rfl rfl ?_
        refine TL_pass2 rfl rfl rfl rfl rfl rfl ?_
        refine TL_pass2 rfl rfl rfl rfl rfl rfl ?_
        refine TL_pass rfl rfl rfl rfl rfl rfl rfl ?_
        refine TL_pure rfl rfl rfl rfl (op_pick_true rfl rfl) ?_
        refine TL_nil ?_
        refine T_cond_true rfl ?_
        refine T_seq ?_
        refine T_region ?_
        refine TL_pure rfl rfl rfl rfl (op_assign rfl) ?_
        refine TL_nil ?_
        refine T_keepH [2] [] rfl rfl rfl rfl (by rw [hF]; rfl) ?_
        refine T_ret ?_
        obtain rfl := someI hm
        refine ⟨[_], [], ⟨rfl, trivial⟩, ?_, rfl, rfl, rfl, rfl⟩
        rfl
      · replace hm := condF hq hm
        refine TL_want rfl rfl ?_
        refine TL_pure rfl rfl rfl rfl (op_move rfl) ?_
        refine TL_want rfl rfl ?_
        refine TL_pure rfl rfl rfl rfl (op_gtr rfl rfl) ?_
        refine TL_want rfl rfl ?_
        refine TL_pure rfl rfl rfl rfl (op_move rfl) ?_
        refine TL_split 23 rfl rfl rfl (fun hq => ?_) (fun hq => ?_)
        · replace hm := condT hq hm
          refine TL_want rfl rfl ?_
          refine TL_pure rfl rfl rfl rfl (op_move rfl) ?_
          refine TL_want rfl rfl ?_
          refine TL_pure rfl rfl rfl rfl (op_nilCheck rfl rfl) ?_
          refine TL_want rfl rfl ?_
          refine TL_pure rfl rfl rfl rfl (op_fieldAddr fa26_1 rfl rfl) ?_
          refine TL_want rfl rfl ?_
          refine TL_pure rfl rfl rfl rfl (op_load_one ag24 rfl rfl) ?_
          refine TL_want rfl rfl ?_
          refine TL_pure rfl rfl rfl rfl (op_move rfl) ?_
          refine TL_want rfl rfl ?_
          refine TL_pure rfl rfl rfl rfl (op_subW rfl rfl) ?_
          refine TL_want rfl rfl ?_
          obtain ⟨x30, hx30, hm⟩ := bindS hm
          refine TL_pure rfl rfl rfl rfl (op_indexT el24 rfl rfl hx30 rfl) ?_
          refine TL_want rfl rfl ?_
          refine TL_pure rfl rfl rfl rfl (op_load_one ag2 rfl rfl) ?_
          refine TL_want rfl rfl ?_
          refine TL_pure rfl rfl rfl rfl (op_eql rfl rfl) ?_
          refine TL_want rfl rfl ?_
          refine TL_pure rfl rfl rfl rfl (op_pick_true rfl rfl) ?_
          refine TL_pure rfl rfl rfl rfl (op_pick_false rfl rfl) ?_
          refine TL_nil ?_
          refine T_cond rfl (fun hq => ?_) (fun hq => ?_)
          · replace hm := condT hq hm
            refine T_seq ?_
            refine T_region ?_
            refine TL_pure rfl rfl rfl rfl (op_assign rfl) ?_
            refine TL_nil ?_
            refine T_keepH [2] [] rfl rfl rfl rfl (by rw [hF]; rfl) ?_
            refine T_ret ?_
            obtain rfl := someI hm
            refine ⟨[_], [], ⟨rfl, trivial⟩, ?_, rfl, rfl, rfl, rfl⟩
            rfl
          · replace hm := condF hq hm
            refine T_skip ?_
            refine T_keepH [0, 3] [] rfl rfl rfl rfl (by rw [hF]; rfl) ?_
            exact hj0 () hm
        · replace hm := condF hq hm
          refine TL_pass rfl rfl rfl rfl rfl rfl rfl ?_
          refine TL_pass rfl rfl rfl rfl rfl rfl rfl ?_
          refine TL_pass rfl rfl rfl rfl rfl rfl rfl ?_
          refine TL_pass rfl rfl rfl rfl rfl rfl rfl ?_
          refine TL_pass rfl rfl rfl rfl rfl rfl rfl ?_
          refine TL_pass rfl rfl rfl rfl rfl rfl rfl ?_
          refine TL_pass rfl rfl rfl rfl rfl rfl rfl ?_
          refine TL_pass rfl rfl rfl rfl rfl rfl rfl ?_
          refine TL_pass rfl rfl rfl rfl rfl rfl rfl ?_
          refine TL_want rfl rfl ?_
          refine TL_pure rfl rfl rfl rfl (op_pick_false rfl rfl) ?_
          refine TL_pure rfl rfl rfl rfl (op_pick_false rfl rfl) ?_
          refine TL_nil ?_
          refine T_cond_false rfl ?_
          refine T_skip ?_
          refine T_keepH [0, 3] [] rfl rfl rfl rfl (by rw [hF]; rfl) ?_
          exact hj0 () hm
    · refine TL_split 16 rfl rfl rfl (fun hq => ?_) (fun hq => ?_)
      · refine TL_pass rfl rfl rfl rfl rfl rfl rfl ?_
        refine TL_pass rfl rfl rfl rfl rfl rfl rfl ?_
        refine TL_pure rfl rfl rfl rfl (op_pick_true rfl rfl) ?_
        refine TL_keepH [0, 3, 19] [] rfl rfl rfl rfl (by rw [hF]; rfl) ?_
        exact TL_cast _ (by rw [hq]; rfl) (hjj () trivial)
      · refine TL_want rfl rfl ?_
        refine TL_pure rfl rfl rfl rfl (op_move rfl) ?_
        refine TL_want rfl rfl ?_
        refine TL_pure rfl rfl rfl rfl (op_gtr rfl rfl) ?_
        refine TL_pure rfl rfl rfl rfl (op_pick_false rfl rfl) ?_
        refine TL_keepH [0, 3, 19] [] rfl rfl rfl rfl (by rw [hF]; rfl) ?_
        exact TL_cast _ (by rw [hq]; rfl) (hjj () trivial)

theorem c_spec_l02All (p0 : List Term) (p1 : Int) (out : Bool) (hm : m_spec_l02All p0 p1 = some out) : ACall Try.prog 81 [.sl 2 (List.map a_Term p0), .int .i64 p1] [] (.bool out) [] := by
  refine ACall.intro Try.func81 rfl Try.ntmps81 rfl (fun F hF => ?_)
  unfold m_spec_l02All at hm
  refine T_seq ?_
  refine T_region ?_
  refine TL_pure rfl rfl rfl rfl (op_assign rfl) ?_
  refine TL_nil ?_
  refine T_seq ?_
  refine T_seq ?_
  refine T_region ?_
  refine TL_pure rfl rfl rfl rfl (op_assign rfl) ?_
  refine TL_nil ?_
  refine T_block ?_
  refine T_keepH [0, 1, 5] [] rfl rfl rfl rfl (by rw [hF]; rfl) ?_
  refine T_loop ?_
  obtain ⟨u0, hl0, hm⟩ := bindS hm
  refine TR_iter2 (m_spec_l02All_L0 p0) (fun (s0 : Int) => ⟨[(0, .sl 2 (List.map a_Term p0)), (1, .int .i64 p1), (5, .int .i64 s0)], []⟩) (fun u0 => match u0 with | .inl u0 => .exit 0 | .inr u0 => .ret) (fun u0 => match u0 with | .inl u0 => ⟨[(0, .sl 2 (List.map a_Term p0)), (1, .int .i64 p1)], []⟩ | .inr u0 => ⟨[(4, .bool u0)], []⟩) (fun u0 => m_spec_l02All_A0 p0 p1 u0 = some out) hl0 hm (fun u0 hm => ?_) (fun hx0 s0 c0 hm hc0 => ?_)
  · rcases u0 with u0 | u0
    · unfold m_spec_l02All_A0 at hm
      refine T_seq ?_
      refine T_region ?_
      refine TL_pure rfl rfl rfl rfl (op_move rfl) ?_
      refine TL_pure rfl rfl rfl rfl (op_lenT Try.underlying43 rfl (List.length_map _)) ?_
      refine TL_fact (fun _ _ _ hr => RelP.slLen (i := 17) rfl hr) (fun hlen18 => ?_)
      rw [List.length_map] at hlen18
      refine TL_pure rfl rfl rfl rfl (op_move rfl) ?_
      refine TL_pure rfl rfl rfl rfl (op_leq rfl rfl) ?_
      refine TL_pure rfl rfl rfl rfl (op_assign rfl) ?_
      refine TL_nil ?_
      refine T_keepH [4] [] rfl rfl rfl rfl (by rw [hF]; rfl) ?_
      refine T_ret ?_
      obtain rfl := someI hm
      refine ⟨[_], [], ⟨rfl, trivial⟩, ?_, rfl, rfl, rfl, rfl⟩
      rfl
    · unfold m_spec_l02All_A0 at hm
      obtain rfl := someI hm
      refine ⟨[_], [], ⟨rfl, trivial⟩, ?_, rfl, rfl, rfl, rfl⟩
      rfl
  · unfold m_spec_l02All_L0 at hm
    refine T_seq ?_
    refine T_seq ?_
    refine T_region ?_
    refine TL_pure rfl rfl rfl rfl (op_move rfl) ?_
    refine TL_pure rfl rfl rfl rfl (op_move rfl) ?_
    refine TL_pure rfl rfl rfl rfl (op_lenT Try.underlying43 rfl (List.length_map _)) ?_
    refine TL_fact (fun _ _ _ hr => RelP.slLen (i := 7) rfl hr) (fun hlen8 => ?_)
    rw [List.length_map] at hlen8
    refine TL_pure rfl rfl rfl rfl (op_lss rfl rfl) ?_
    refine TL_nil ?_
    refine T_cond rfl (fun hq => ?_) (fun hq => ?_)
    · replace hm := condT hq hm
      refine T_skip ?_
      refine T_seq ?_
      refine T_block ?_
      refine T_seq ?_
      refine T_region ?_
      refine TL_pure rfl rfl rfl rfl (op_move rfl) ?_
      refine TL_pure rfl rfl rfl rfl (op_move rfl) ?_
      obtain ⟨x14, hx14, hm⟩ := bindS hm
      refine TL_pure rfl rfl rfl rfl (op_indexT el43 rfl rfl hx14 rfl) ?_
      obtain ⟨r15, hr15, hm⟩ := bindS hm
      refine TL_callF (c_spec_l02Is x14 r15 hr15) Try.call68 rfl rfl rfl rfl rfl ?_
      refine TL_pure rfl rfl rfl rfl (op_not rfl) ?_
      refine TL_nil ?_
      refine T_cond rfl (fun hq => ?_) (fun hq => ?_)
      · replace hm := condT hq hm
        refine T_seq ?_
        refine T_region ?_
        refine TL_pure rfl rfl rfl rfl (op_assign rfl) ?_
        refine TL_nil ?_
        refine T_keepH [4] [] rfl rfl rfl rfl (by rw [hF]; rfl) ?_
        refine T_ret ?_
        obtain rfl := someI hm
        have hn := CtlOK_out hc0
        exact hx0 (.inr false) hn
      · replace hm := condF hq hm
        refine T_skip ?_
        refine T_region ?_
        refine TL_pure rfl rfl rfl rfl (op_move rfl) ?_
        refine TL_pure rfl rfl rfl rfl (op_addW rfl rfl) ?_
        refine TL_pure rfl rfl rfl rfl (op_assign rfl) ?_
        refine TL_nil ?_
        refine TR_keepH [0, 1, 5] [] rfl rfl rfl rfl (by rw [hF]; rfl) ?_
        obtain rfl := someI hm
        have hn := CtlOK_next hc0
        exact hn _ rfl
    · replace hm := condF hq hm
      refine T_keepH [0, 1] [] rfl rfl rfl rfl (by rw [hF]; rfl) ?_
      refine T_exit ?_
      obtain rfl := someI hm
      have hn := CtlOK_out hc0
      exact hx0 (.inl ()) hn

theorem c_spec_l00Own (p0 : List Int) (out : List Int) (hm : m_spec_l00Own p0 = some out) : ACall Try.prog 91 [.sl 1 (List.map a_i64 p0)] [] (.ow 1000) [(1000, .arr ⟨false, true⟩ 1 2 (List.map a_i64 out))] := by
  refine ACall.intro Try.func91 rfl Try.ntmps91 rfl (fun F hF => ?_)
  unfold m_spec_l00Own at hm
  refine T_seq ?_
  refine T_region ?_
  refine TL_pure rfl rfl rfl rfl (op_assign rfl) ?_
  refine TL_nil ?_
  refine T_seq ?_
  refine T_region ?_
  refine TL_buildSlice 11 (es := List.map a_i64 ([] : List Int)) el24 z2 rfl rfl rfl rfl rfl rfl rfl rfl rfl ?_
  refine TL_pure rfl rfl rfl rfl (op_move rfl) ?_
  obtain ⟨q5, hq5, hm⟩ := bindS hm
  refine TL_appendT (f := a_i64) (a := ([] : List Int)) (b := p0) el24 z2 rfl rfl rfl rfl rfl rfl rfl (capI_spec hq5) rfl rfl rfl rfl rfl ?_
  refine TL_pure rfl rfl rfl rfl (op_assign rfl) ?_
  refine TL_nil ?_
  refine T_keepH [2] [11] rfl rfl rfl rfl (by rw [hF]; rfl) ?_
  refine T_deepen 11 (p' := false) (List.map a_i64 (([] : List Int) ++ p0)) (by rw [hF]; rfl) rfl (ElR.map (f := a_i64) (g := a_i64) (fun _ => ⟨⟨rfl, rfl⟩, trivial⟩) (([] : List Int) ++ p0)) rfl rfl rfl ?_
  refine T_ren [(11, 1000)] rfl rfl rfl (by rw [hF]; rfl) ?_
  refine T_ret ?_
  obtain rfl := someI hm
  refine ⟨[_], [1000], ⟨rfl, trivial⟩, ?_, rfl, rfl, rfl, rfl⟩
  rfl

theorem c_spec_l02Make (p0 : Int) (p1 : List Int) (out : Term × Bool) (hm : m_spec_l02Make p0 p1 = some out) : ACall Try.prog 59 [.int .i64 p0, .sl 1 (List.map a_i64 p1)] [] (.tup [.agg [.int .i64 out.1.Const, .ow 1000], .bool out.2]) [(1000, .arr ⟨false, true⟩ 1 2 (List.map a_i64 out.1.Coeffs))] := by
  refine ACall.intro Try.func59 rfl Try.ntmps59 rfl (fun F hF => ?_)
  unfold m_spec_l02Make at hm
  refine T_seq ?_
  refine T_region ?_
  refine TL_alloc 11 z26 rfl rfl rfl rfl rfl rfl rfl ?_
  refine TL_pure rfl rfl rfl rfl (op_assign rfl) ?_
  refine TL_nil ?_
  refine T_seq ?_
  refine T_region ?_
  refine TL_pure rfl rfl rfl rfl (op_move rfl) ?_
  refine TL_pure rfl rfl rfl rfl (op_lenT Try.underlying24 rfl (List.length_map _)) ?_
  refine TL_fact (fun _ _ _ hr => RelP.slLen (i := 8) rfl hr) (fun hlen9 => ?_)
  rw [List.length_map] at hlen9
  refine TL_pure rfl rfl rfl rfl (op_assign rfl) ?_
  refine TL_nil ?_
  refine T_seq ?_
  refine T_block ?_
  refine T_keepH [0, 1, 4, 6] [11] rfl rfl rfl rfl (by rw [hF]; rfl) ?_
  refine T_loop ?_
  obtain ⟨u0, hl0, hm⟩ := bindS hm
  refine TR_iter2 (m_spec_l02Make_L0 p1) (fun (s0 : Int) => ⟨[(0, .int .i64 p0), (1, .sl 1 (List.map a_i64 p1)), (4, .ptr 11 0 0), (6, .int .i64 s0)], [(11, .box [.int .i64 (0 : Int), .snil])]⟩) (fun u0 => .exit 0) (fun u0 => ⟨[(0, .int .i64 p0), (1, .sl 1 (List.map a_i64 p1)), (4, .ptr 11 0 0), (6, .int .i64 u0)], [(11, .box [.int .i64 (0 : Int), .snil])]⟩) (fun u0 => m_spec_l02Make_A0 p0 p1 u0 = some out) hl0 hm (fun u0 hm => ?_) (fun hx0 s0 c0 hm hc0 => ?_)
  · unfold m_spec_l02Make_A0 at hm
    refine T_seq ?_
    refine T_region ?_
    refine TL_pure rfl rfl rfl rfl (op_move rfl) ?_
    refine TL_pure rfl rfl rfl rfl (op_move rfl) ?_
    refine TL_pure rfl rfl rfl rfl (op_move rfl) ?_
    obtain ⟨y25, hy25, hm⟩ := bindS hm
    refine TL_pure rfl rfl rfl rfl (op_sliceI el24 rfl ⟨rfl, ⟨_, rfl⟩⟩ hy25) ?_
    obtain ⟨r26, hr26, hm⟩ := bindS hm
    refine TL_callO [(1000, 12)] (c_spec_l00Own y25 r26 hr26) Try.call91 rfl rfl rfl rfl rfl rfl rfl rfl rfl rfl rfl rfl rfl ?_
    refine TL_pure rfl rfl rfl rfl (op_buildP pl26 z26 rfl rfl rfl rfl rfl) ?_
    refine TL_alloc 13 z26 rfl rfl rfl rfl rfl rfl rfl ?_
    refine TL_store_box sz26 rfl rfl rfl rfl rfl rfl rfl rfl rfl ?_
    refine TL_nil ?_
    refine T_seq ?_
    refine T_seq ?_
    refine T_region ?_
    obtain ⟨r28, hr28, hm⟩ := bindS hm
    refine TL_callF (c_spec_l02Is (Term.mk p0 r26) r28 hr28) Try.call68 rfl rfl rfl rfl rfl ?_
    refine TL_pure rfl rfl rfl rfl (op_not rfl) ?_
    refine TL_nil ?_
    refine T_cond rfl (fun hq => ?_) (fun hq => ?_)
    · replace hm := condT hq hm
      refine T_seq ?_
      refine T_region ?_
      refine TL_pure rfl rfl rfl rfl (op_buildP pl26 z26 rfl rfl rfl rfl rfl) ?_
      refine TL_store_box sz26 rfl rfl rfl rfl rfl rfl rfl rfl rfl ?_
      refine TL_pure rfl rfl rfl rfl (op_assign rfl) ?_
      refine TL_nil ?_
      refine T_ownNilBox 11 1 14 ⟨false, true⟩ 2 rfl rfl rfl (sz := 1) rfl rfl rfl rfl ?_
      refine T_keepH [4, 5] [11, 14] rfl rfl rfl rfl (by rw [hF]; rfl) ?_
      refine T_ren [(11, 11), (14, 1000)] rfl rfl rfl (by rw [hF]; rfl) ?_
      refine T_ret ?_
      obtain rfl := someI hm
      refine ⟨[_, _], [1000], ⟨⟨_, _, rfl, rfl, .inr ⟨ag26, _, _, sz26, rfl, rfl⟩⟩, rfl, trivial⟩, ?_, rfl, rfl, rfl, rfl⟩
      rfl
    · replace hm := condF hq hm
      refine T_skip ?_
      refine T_seq ?_
      refine T_region ?_
      refine TL_pure rfl rfl rfl rfl (op_load_agg ag26 sz26 rfl rfl rfl) ?_
      refine TL_store_box sz26 rfl rfl rfl rfl rfl rfl rfl rfl rfl ?_
      refine TL_pure rfl rfl rfl rfl (op_assign rfl) ?_
      refine TL_nil ?_
      refine T_keepH [4, 5] [11, 12] rfl rfl rfl rfl (by rw [hF]; rfl) ?_
      refine T_ren [(11, 11), (12, 1000)] rfl rfl rfl (by rw [hF]; rfl) ?_
      refine T_ret ?_
      obtain rfl := someI hm
      refine ⟨[_, _], [1000], ⟨⟨_, _, rfl, rfl, .inr ⟨ag26, _, _, sz26, rfl, rfl⟩⟩, rfl, trivial⟩, ?_, rfl, rfl, rfl, rfl⟩
      rfl
  · unfold m_spec_l02Make_L0 at hm
    refine T_seq ?_
    refine T_seq ?_
    refine T_region ?_
    refine TL_pure rfl rfl rfl rfl (op_move rfl) ?_
    refine TL_pure rfl rfl rfl rfl (op_gtr rfl rfl) ?_
    refine TL_pure rfl rfl rfl rfl (op_move rfl) ?_
    refine TL_split 12 rfl rfl rfl (fun hq => ?_) (fun hq => ?_)
    · replace hm := condT hq hm
      refine TL_want rfl rfl ?_
      refine TL_pure rfl rfl rfl rfl (op_move rfl) ?_
      refine TL_want rfl rfl ?_
      refine TL_pure rfl rfl rfl rfl (op_move rfl) ?_
      refine TL_want rfl rfl ?_
      refine TL_pure rfl rfl rfl rfl (op_subW rfl rfl) ?_
      refine TL_want rfl rfl ?_
      obtain ⟨x16, hx16, hm⟩ := bindS hm
      refine TL_pure rfl rfl rfl rfl (op_indexT el24 rfl rfl hx16 rfl) ?_
      refine TL_want rfl rfl ?_
      refine TL_pure rfl rfl rfl rfl (op_load_one ag2 rfl rfl) ?_
      refine TL_want rfl rfl ?_
      refine TL_pure rfl rfl rfl rfl (op_eql rfl rfl) ?_
      refine TL_pure rfl rfl rfl rfl (op_pick_true rfl rfl) ?_
      refine TL_nil ?_
      refine T_cond rfl (fun hq => ?_) (fun hq => ?_)
      · replace hm := condT hq hm
        refine T_skip ?_
        refine T_block ?_
        refine T_region ?_
        refine TL_pure rfl rfl rfl rfl (op_move rfl) ?_
        refine TL_pure rfl rfl rfl rfl (op_subW rfl rfl) ?_
        refine TL_pure rfl rfl rfl rfl (op_assign rfl) ?_
        refine TL_nil ?_
        refine TR_keepH [0, 1, 4, 6] [11] rfl rfl rfl rfl (by rw [hF]; rfl) ?_
        obtain rfl := someI hm
        have hn := CtlOK_next hc0
        exact hn _ rfl
      · replace hm := condF hq hm
        refine T_keepH [0, 1, 4, 6] [11] rfl rfl rfl rfl (by rw [hF]; rfl) ?_
        refine T_exit ?_
        obtain rfl := someI hm
        have hn := CtlOK_out hc0
        exact hx0 s0 hn
    · replace hm := condF hq hm
      refine TL_pass rfl rfl rfl rfl rfl rfl rfl ?_
      refine TL_pass rfl rfl rfl rfl rfl rfl rfl ?_
      refine TL_pass rfl rfl rfl rfl rfl rfl rfl ?_
      refine TL_pass rfl rfl rfl rfl rfl rfl rfl ?_
      refine TL_pass rfl rfl rfl rfl rfl rfl rfl ?_
      refine TL_pass rfl rfl rfl rfl rfl rfl rfl ?_
      refine TL_pure rfl rfl rfl rfl (op_pick_false rfl rfl) ?_
      refine TL_nil ?_
      refine T_cond_false rfl ?_
      refine T_keepH [0, 1, 4, 6] [11] rfl rfl rfl rfl (by rw [hF]; rfl) ?_
      refine T_exit ?_
      obtain rfl := someI hm
      have hn := CtlOK_out hc0
      exact hx0 s0 hn

theorem c_spec_l02Replace (p0 : Term) (p1 : List Term) (out : Term × Bool) (hm : m_spec_l02Replace p0 p1 = some out) : ACall Try.prog 84 [.cp [.int .i64 p0.Const, .sl 1 (List.map a_i64 p0.Coeffs)], .sl 2 (List.map a_Term p1)] [] (.tup [.agg [.int .i64 out.1.Const, .ow 1000], .bool out.2]) [(1000, .arr ⟨false, true⟩ 1 2 (List.map a_i64 out.1.Coeffs))] := by
  refine ACall.intro Try.func84 rfl Try.ntmps84 rfl (fun F hF => ?_)
  unfold m_spec_l02Replace at hm
  refine T_seq ?_
  refine T_region ?_
  refine TL_alloc 11 z26 rfl rfl rfl rfl rfl rfl rfl ?_
  refine TL_pure rfl rfl rfl rfl (op_assign rfl) ?_
  refine TL_nil ?_
  refine T_seq ?_
  refine T_region ?_
  refine TL_pure rfl rfl rfl rfl (op_move rfl) ?_
  refine TL_pure rfl rfl rfl rfl (op_nilCheck rfl rfl) ?_
  refine TL_pure rfl rfl rfl rfl (op_fieldAddr fa26_0 rfl rfl) ?_
  refine TL_pure rfl rfl rfl rfl (op_load_one ag2 rfl rfl) ?_
  refine TL_pure rfl rfl rfl rfl (op_assign rfl) ?_
  refine TL_nil ?_
  refine T_seq ?_
  refine T_region ?_
  obtain ⟨k14, hk14, hm⟩ := bindS hm
  refine TL_make 12 (n := k14) el24 z2 rfl rfl rfl rfl rfl rfl (makeI_spec hk14).1 (makeI_spec hk14).1 (makeI_spec hk14).2 rfl rfl rfl rfl ?_
  refine TL_nils 12 (List.map a_i64 (List.replicate k14 (0 : Int))) (by rw [hF]; rfl) rfl (ElR.rep (z := .int .i64 (0 : Int)) (g := a_i64) (x := (0 : Int)) ⟨⟨rfl, rfl⟩, trivial⟩ k14) rfl ?_
  refine TL_pure rfl rfl rfl rfl (op_assign rfl) ?_
  refine TL_nil ?_
  refine T_seq ?_
  refine T_seq ?_
  refine T_region ?_
  refine TL_pure rfl rfl rfl rfl (op_assign rfl) ?_
  refine TL_nil ?_
  refine T_block ?_
  refine T_keepH [0, 1, 4, 6, 7, 8] [11, 12] rfl rfl rfl rfl (by rw [hF]; rfl) ?_
  refine T_loop ?_
  obtain ⟨u0, hl0, hm⟩ := bindS hm
  refine TR_iter2 (m_spec_l02Replace_L0 p0 p1) (fun (s0 : Int × (List Int) × Int) => ⟨[(0, .cp [.int .i64 p0.Const, .sl 1 (List.map a_i64 p0.Coeffs)]), (1, .sl 2 (List.map a_Term p1)), (4, .ptr 11 0 0), (6, .int .i64 s0.1), (7, .ow 12), (8, .int .i64 s0.2.2)], [(11, .box [.int .i64 (0 : Int), .snil]), (12, .arr ⟨false, false⟩ 1 2 (List.map a_i64 s0.2.1))]⟩) (fun u0 => .exit 0) (fun u0 => ⟨[(4, .ptr 11 0 0), (6, .int .i64 u0.1), (7, .ow 12)], [(11, .box [.int .i64 (0 : Int), .snil]), (12, .arr ⟨false, false⟩ 1 2 (List.map a_i64 u0.2))]⟩) (fun u0 => m_spec_l02Replace_A0 u0 = some out) hl0 hm (fun u0 hm => ?_) (fun hx0 s0 c0 hm hc0 => ?_)
  · unfold m_spec_l02Replace_A0 at hm
    refine T_seq ?_
    refine T_region ?_
    refine TL_pure rfl rfl rfl rfl (op_move rfl) ?_
    refine TL_pure rfl rfl rfl rfl (op_move rfl) ?_
    obtain ⟨r90, hr90, hm⟩ := bindS hm
    refine TL_callO [(1000, 13)] (c_spec_l02Make u0.1 u0.2 r90 hr90) Try.call59 rfl rfl rfl rfl rfl rfl rfl rfl rfl rfl rfl rfl rfl ?_
    refine TL_pure rfl rfl rfl rfl (op_extract rfl rfl) ?_
    refine TL_pure rfl rfl rfl rfl (op_extract rfl rfl) ?_
    refine TL_store_box sz26 rfl rfl rfl rfl rfl rfl rfl rfl rfl ?_
    refine TL_pure rfl rfl rfl rfl (op_assign rfl) ?_
    refine TL_nil ?_
    refine T_keepH [4, 5] [11, 13] rfl rfl rfl rfl (by rw [hF]; rfl) ?_
    refine T_ren [(11, 11), (13, 1000)] rfl rfl rfl (by rw [hF]; rfl) ?_
    refine T_ret ?_
    obtain rfl := someI hm
    refine ⟨[_, _], [1000], ⟨⟨_, _, rfl, rfl, .inr ⟨ag26, _, _, sz26, rfl, rfl⟩⟩, rfl, trivial⟩, ?_, rfl, rfl, rfl, rfl⟩
    rfl
  · unfold m_spec_l02Replace_L0 at hm
    refine T_seq ?_
    refine T_seq ?_
    refine T_region ?_
    refine TL_pure rfl rfl rfl rfl (op_move rfl) ?_
    refine TL_pure rfl rfl rfl rfl (op_move rfl) ?_
    refine TL_pure rfl rfl rfl rfl (op_nilCheck rfl rfl) ?_
    refine TL_pure rfl rfl rfl rfl (op_fieldAddr fa26_1 rfl rfl) ?_
    refine TL_pure rfl rfl rfl rfl (op_load_one ag24 rfl rfl) ?_
    refine TL_pure rfl rfl rfl rfl (op_lenT Try.underlying24 rfl (List.length_map _)) ?_
    refine TL_fact (fun _ _ _ hr => RelP.slLen (i := 19) rfl hr) (fun hlen20 => ?_)
    rw [List.length_map] at hlen20
    refine TL_pure rfl rfl rfl rfl (op_lss rfl rfl) ?_
    refine TL_nil ?_
    refine T_cond rfl (fun hq => ?_) (fun hq => ?_)
    · replace hm := condT hq hm
      refine T_skip ?_
      refine T_seq ?_
      refine T_block ?_
      refine T_seq ?_
      refine T_seq ?_
      refine T_region ?_
      refine TL_pure rfl rfl rfl rfl (op_move rfl) ?_
      refine TL_pure rfl rfl rfl rfl (op_move rfl) ?_
      refine TL_pure rfl rfl rfl rfl (op_lenT Try.underlying43 rfl (List.length_map _)) ?_
      refine TL_fact (fun _ _ _ hr => RelP.slLen (i := 25) rfl hr) (fun hlen26 => ?_)
      rw [List.length_map] at hlen26
      refine TL_pure rfl rfl rfl rfl (op_geq rfl rfl) ?_
      refine TL_nil ?_
      refine T_cond rfl (fun hq => ?_) (fun hq => ?_)
      · replace hm := condT hq hm
        refine T_seq ?_
        refine T_drawZ [13] mix (by kernel_rfl) rfl ?_
        obtain ⟨x30, hx30, hm⟩ := bindS hm
        obtain ⟨x37, hx37, hm⟩ := bindS hm
        refine TZ_pure 0 (by kernel_rfl) rfl rfl rfl rfl rfl (op_move rfl) ?_
        refine TZ_pure 1 (by kernel_rfl) rfl rfl rfl rfl rfl (op_move rfl) ?_
        refine TZ_pure 2 (by kernel_rfl) rfl rfl rfl rfl rfl (op_indexO el24 rfl rfl rfl hx30) ?_
        refine TZ_pure 3 (by kernel_rfl) rfl rfl rfl rfl rfl (op_loadT1 ag2 rfl rfl ((getI_spec hx30).2) rfl rfl) ?_
        refine TZ_pure 4 (by kernel_rfl) rfl rfl rfl rfl rfl (op_move rfl) ?_
        refine TZ_pure 5 (by kernel_rfl) rfl rfl rfl rfl rfl (op_nilCheck rfl rfl) ?_
        refine TZ_pure 6 (by kernel_rfl) rfl rfl rfl rfl rfl (op_fieldAddr fa26_1 rfl rfl) ?_
        refine TZ_pure 7 (by kernel_rfl) rfl rfl rfl rfl rfl (op_load_one ag24 rfl rfl) ?_
        refine TZ_pure 8 (by kernel_rfl) rfl rfl rfl rfl rfl (op_move rfl) ?_
        refine TZ_pure 9 (by kernel_rfl) rfl rfl rfl rfl rfl (op_indexT el24 rfl rfl hx37 rfl) ?_
        refine TZ_pure 10 (by kernel_rfl) rfl rfl rfl rfl rfl (op_load_one ag2 rfl rfl) ?_
        refine TZ_pure 11 (by kernel_rfl) rfl rfl rfl rfl rfl (op_addW rfl rfl) ?_
        refine TZ_pure 12 (by kernel_rfl) rfl rfl rfl rfl rfl (op_indexO el24 rfl rfl rfl hx30) ?_
        refine TZ_one 13 (by kernel_rfl) rfl ?_
        refine TL_storeT sz2 rfl rfl ((getI_spec hx30).2) (v' := (w64 (x30 + x37))) rfl rfl rfl rfl rfl rfl rfl rfl rfl rfl ?_
        refine TL_nil ?_
        refine TZ_done (by kernel_rfl) ?_
        refine T_exit ?_
        refine T_region ?_
        refine TL_pure rfl rfl rfl rfl (op_move rfl) ?_
        refine TL_pure rfl rfl rfl rfl (op_addW rfl rfl) ?_
        refine TL_pure rfl rfl rfl rfl (op_assign rfl) ?_
        refine TL_nil ?_
        refine TR_keepH [0, 1, 4, 6, 7, 8] [11, 12] rfl rfl rfl rfl (by rw [hF]; rfl) ?_
        obtain rfl := someI hm
        have hn := CtlOK_next hc0
        exact hn _ rfl
      · replace hm := condF hq hm
        refine T_skip ?_
        refine T_seq ?_
        refine T_drawZ [] mix (by kernel_rfl) rfl ?_
        obtain ⟨x47, hx47, hm⟩ := bindS hm
        obtain ⟨x51, hx51, hm⟩ := bindS hm
        refine TZ_pure 0 (by kernel_rfl) rfl rfl rfl rfl rfl (op_move rfl) ?_
        refine TZ_pure 1 (by kernel_rfl) rfl rfl rfl rfl rfl (op_move rfl) ?_
        refine TZ_pure 2 (by kernel_rfl) rfl rfl rfl rfl rfl (op_nilCheck rfl rfl) ?_
        refine TZ_pure 3 (by kernel_rfl) rfl rfl rfl rfl rfl (op_fieldAddr fa26_1 rfl rfl) ?_
        refine TZ_pure 4 (by kernel_rfl) rfl rfl rfl rfl rfl (op_load_one ag24 rfl rfl) ?_
        refine TZ_pure 5 (by kernel_rfl) rfl rfl rfl rfl rfl (op_move rfl) ?_
        refine TZ_pure 6 (by kernel_rfl) rfl rfl rfl rfl rfl (op_indexT el24 rfl rfl hx47 rfl) ?_
        refine TZ_pure 7 (by kernel_rfl) rfl rfl rfl rfl rfl (op_load_one ag2 rfl rfl) ?_
        refine TZ_pure 8 (by kernel_rfl) rfl rfl rfl rfl rfl (op_move rfl) ?_
        refine TZ_pure 9 (by kernel_rfl) rfl rfl rfl rfl rfl (op_move rfl) ?_
        refine TZ_pure 10 (by kernel_rfl) rfl rfl rfl rfl rfl (op_indexT el43 rfl rfl hx51 rfl) ?_
        refine TZ_pure 11 (by kernel_rfl) rfl rfl rfl rfl rfl (op_fieldAddr fa26_0 rfl rfl) ?_
        refine TZ_pure 12 (by kernel_rfl) rfl rfl rfl rfl rfl (op_load_one ag2 rfl rfl) ?_
        refine TZ_pure 13 (by kernel_rfl) rfl rfl rfl rfl rfl (op_mulW rfl rfl) ?_
        refine TZ_pure 14 (by kernel_rfl) rfl rfl rfl rfl rfl (op_addW rfl rfl) ?_
        refine TZ_pure 15 (by kernel_rfl) rfl rfl rfl rfl rfl (op_assign rfl) ?_
        refine TZ_done (by kernel_rfl) ?_
        refine T_seq ?_
        refine T_region ?_
        refine TL_pure rfl rfl rfl rfl (op_assign rfl) ?_
        refine TL_nil ?_
        refine T_block ?_
        refine T_keepH [0, 1, 4, 6, 7, 8, 9] [11, 12] rfl rfl rfl rfl (by rw [hF]; rfl) ?_
        refine T_loop ?_
        obtain ⟨u1, hl1, hm⟩ := bindS hm
        refine TR_iter2 (m_spec_l02Replace_L1 x47 x51) (fun (s1 : (List Int) × Int) => ⟨[(0, .cp [.int .i64 p0.Const, .sl 1 (List.map a_i64 p0.Coeffs)]), (1, .sl 2 (List.map a_Term p1)), (4, .ptr 11 0 0), (6, .int .i64 (w64 (s0.1 + (w64 (x47 * x51.Const))))), (7, .ow 12), (8, .int .i64 s0.2.2), (9, .int .i64 s1.2)], [(11, .box [.int .i64 (0 : Int), .snil]), (12, .arr ⟨false, false⟩ 1 2 (List.map a_i64 s1.1))]⟩) (fun u1 => .exit 2) (fun u1 => ⟨[(0, .cp [.int .i64 p0.Const, .sl 1 (List.map a_i64 p0.Coeffs)]), (1, .sl 2 (List.map a_Term p1)), (4, .ptr 11 0 0), (6, .int .i64 (w64 (s0.1 + (w64 (x47 * x51.Const))))), (7, .ow 12), (8, .int .i64 s0.2.2)], [(11, .box [.int .i64 (0 : Int), .snil]), (12, .arr ⟨false, false⟩ 1 2 (List.map a_i64 u1))]⟩) (fun u1 => m_spec_l02Replace_A1 s0 x47 x51 u1 = some c0) hl1 hm (fun u1 hm => ?_) (fun hx1 s1 c1 hm hc1 => ?_)
        · unfold m_spec_l02Replace_A1 at hm
          refine T_region ?_
          refine TL_pure rfl rfl rfl rfl (op_move rfl) ?_
          refine TL_pure rfl rfl rfl rfl (op_addW rfl rfl) ?_
          refine TL_pure rfl rfl rfl rfl (op_assign rfl) ?_
          refine TL_nil ?_
          refine TR_keepH [0, 1, 4, 6, 7, 8] [11, 12] rfl rfl rfl rfl (by rw [hF]; rfl) ?_
          obtain rfl := someI hm
          have hn := CtlOK_next hc0
          exact hn _ rfl
        · unfold m_spec_l02Replace_L1 at hm
          refine T_seq ?_
          refine T_seq ?_
          refine T_region ?_
          refine TL_pure rfl rfl rfl rfl (op_move rfl) ?_
          refine TL_pure rfl rfl rfl rfl (op_move rfl) ?_
          refine TL_pure rfl rfl rfl rfl (op_move rfl) ?_
          refine TL_pure rfl rfl rfl rfl (op_indexT el43 rfl rfl hx51 rfl) ?_
          refine TL_pure rfl rfl rfl rfl (op_fieldAddr fa26_1 rfl rfl) ?_
          refine TL_pure rfl rfl rfl rfl (op_load_one ag24 rfl rfl) ?_
          refine TL_pure rfl rfl rfl rfl (op_lenT Try.underlying24 rfl (List.length_map _)) ?_
          refine TL_fact (fun _ _ _ hr => RelP.slLen (i := 61) rfl hr) (fun hlen62 => ?_)
          rw [List.length_map] at hlen62
          refine TL_pure rfl rfl rfl rfl (op_lss rfl rfl) ?_
          refine TL_nil ?_
          refine T_cond rfl (fun hq => ?_) (fun hq => ?_)
          · replace hm := condT hq hm
            refine T_skip ?_
            refine T_seq ?_
            refine T_block ?_
            refine T_drawZ [22] mix (by kernel_rfl) rfl ?_
            obtain ⟨x68, hx68, hm⟩ := bindS hm
            obtain ⟨x83, hx83, hm⟩ := bindS hm
            refine TZ_pure 0 (by kernel_rfl) rfl rfl rfl rfl rfl (op_move rfl) ?_
            refine TZ_pure 1 (by kernel_rfl) rfl rfl rfl rfl rfl (op_move rfl) ?_
            refine TZ_pure 2 (by kernel_rfl) rfl rfl rfl rfl rfl (op_indexO el24 rfl rfl rfl hx68) ?_
            refine TZ_pure 3 (by kernel_rfl) rfl rfl rfl rfl rfl (op_loadT1 ag2 rfl rfl ((getI_spec hx68).2) rfl rfl) ?_
            refine TZ_pure 4 (by kernel_rfl) rfl rfl rfl rfl rfl (op_move rfl) ?_
            refine TZ_pure 5 (by kernel_rfl) rfl rfl rfl rfl rfl (op_nilCheck rfl rfl) ?_
            refine TZ_pure 6 (by kernel_rfl) rfl rfl rfl rfl rfl (op_fieldAddr fa26_1 rfl rfl) ?_
            refine TZ_pure 7 (by kernel_rfl) rfl rfl rfl rfl rfl (op_load_one ag24 rfl rfl) ?_
            refine TZ_pure 8 (by kernel_rfl) rfl rfl rfl rfl rfl (op_move rfl) ?_
            refine TZ_pure 9 (by kernel_rfl) rfl rfl rfl rfl rfl (op_indexT el24 rfl rfl hx47 rfl) ?_
            refine TZ_pure 10 (by kernel_rfl) rfl rfl rfl rfl rfl (op_load_one ag2 rfl rfl) ?_
            refine TZ_pure 11 (by kernel_rfl) rfl rfl rfl rfl rfl (op_move rfl) ?_
            refine TZ_pure 12 (by kernel_rfl) rfl rfl rfl rfl rfl (op_move rfl) ?_
            refine TZ_pure 13 (by kernel_rfl) rfl rfl rfl rfl rfl (op_indexT el43 rfl rfl hx51 rfl) ?_
            refine TZ_pure 14 (by kernel_rfl) rfl rfl rfl rfl rfl (op_fieldAddr fa26_1 rfl rfl) ?_
            refine TZ_pure 15 (by kernel_rfl) rfl rfl rfl rfl rfl (op_load_one ag24 rfl rfl) ?_
            refine TZ_pure 16 (by kernel_rfl) rfl rfl rfl rfl rfl (op_move rfl) ?_
            refine TZ_pure 17 (by kernel_rfl) rfl rfl rfl rfl rfl (op_indexT el24 rfl rfl hx83 rfl) ?_
            refine TZ_pure 18 (by kernel_rfl) rfl rfl rfl rfl rfl (op_load_one ag2 rfl rfl) ?_
            refine TZ_pure 19 (by kernel_rfl) rfl rfl rfl rfl rfl (op_mulW rfl rfl) ?_
            refine TZ_pure 20 (by kernel_rfl) rfl rfl rfl rfl rfl (op_addW rfl rfl) ?_
            refine TZ_pure 21 (by kernel_rfl) rfl rfl rfl rfl rfl (op_indexO el24 rfl rfl rfl hx68) ?_
            refine TZ_one 22 (by kernel_rfl) rfl ?_
            refine TL_storeT sz2 rfl rfl ((getI_spec hx68).2) (v' := (w64 (x68 + (w64 (x47 * x83))))) rfl rfl rfl rfl rfl rfl rfl rfl rfl rfl ?_
            refine TL_nil ?_
            refine TZ_done (by kernel_rfl) ?_
            refine T_region ?_
            refine TL_pure rfl rfl rfl rfl (op_move rfl) ?_
            refine TL_pure rfl rfl rfl rfl (op_addW rfl rfl) ?_
            refine TL_pure rfl rfl rfl rfl (op_assign rfl) ?_
            refine TL_nil ?_
            refine TR_keepH [0, 1, 4, 6, 7, 8, 9] [11, 12] rfl rfl rfl rfl (by rw [hF]; rfl) ?_
            obtain rfl := someI hm
            have hn := CtlOK_next hc1
            exact hn _ rfl
          · replace hm := condF hq hm
            refine T_keepH [0, 1, 4, 6, 7, 8] [11, 12] rfl rfl rfl rfl (by rw [hF]; rfl) ?_
            refine T_exit ?_
            obtain rfl := someI hm
            have hn := CtlOK_out hc1
            exact hx1 s1.1 hn
    · replace hm := condF hq hm
      refine T_keepH [4, 6, 7] [11, 12] rfl rfl rfl rfl (by rw [hF]; rfl) ?_
      refine T_exit ?_
      obtain rfl := someI hm
      have hn := CtlOK_out hc0
      exact hx0 (s0.1, s0.2.1) hn

theorem c_spec_SubstituteTerm (p0 : Term) (p1 : List Term) (out : Term × Bool) (hm : m_spec_SubstituteTerm p0 p1 = some out) : ACall Try.prog 49 [.agg [.int .i64 p0.Const, .sl 1 (List.map a_i64 p0.Coeffs)], .sl 2 (List.map a_Term p1)] [] (.tup [.agg [.int .i64 out.1.Const, .ow 1000], .bool out.2]) [(1000, .arr ⟨false, true⟩ 1 2 (List.map a_i64 out.1.Coeffs))] := by
  refine ACall.intro Try.func49 rfl Try.ntmps49 rfl (fun F hF => ?_)
  unfold m_spec_SubstituteTerm at hm
  refine T_seq ?_
  refine T_region ?_
  refine TL_box 11 rfl rfl rfl rfl rfl rfl rfl ?_
  refine TL_alloc 12 z26 rfl rfl rfl rfl rfl rfl rfl ?_
  refine TL_pure rfl rfl rfl rfl (op_assign rfl) ?_
  refine TL_nil ?_
  refine T_seq ?_
  refine T_seq ?_
  refine T_region ?_
  obtain ⟨r6, hr6, hm⟩ := bindS hm
  refine TL_callF (c_spec_l02Is p0 r6 hr6) Try.call68 rfl rfl rfl rfl rfl ?_
  refine TL_pure rfl rfl rfl rfl (op_not rfl) ?_
  refine TL_pure rfl rfl rfl rfl (op_move rfl) ?_
  refine TL_split 8 rfl rfl rfl (fun hq => ?_) (fun hq => ?_)
  · replace hm := condT hq hm
    refine TL_pass rfl rfl rfl rfl rfl rfl rfl ?_
    refine TL_pass rfl rfl rfl rfl rfl rfl rfl ?_
    refine TL_pass rfl rfl rfl rfl rfl rfl rfl ?_
    refine TL_pure rfl rfl rfl rfl (op_pick_true rfl rfl) ?_
    refine TL_nil ?_
    refine T_cond_true rfl ?_
    refine T_seq ?_
    refine T_region ?_
    refine TL_pure rfl rfl rfl rfl (op_buildP pl26 z26 rfl rfl rfl rfl rfl) ?_
    refine TL_store_box sz26 rfl rfl rfl rfl rfl rfl rfl rfl rfl ?_
    refine TL_pure rfl rfl rfl rfl (op_assign rfl) ?_
    refine TL_nil ?_
    refine T_ownNilBox 12 1 13 ⟨false, true⟩ 2 rfl rfl rfl (sz := 1) rfl rfl rfl rfl ?_
    refine T_keepH [4, 5] [12, 13] rfl rfl rfl rfl (by rw [hF]; rfl) ?_
    refine T_ren [(12, 12), (13, 1000)] rfl rfl rfl (by rw [hF]; rfl) ?_
    refine T_ret ?_
    obtain rfl := someI hm
    refine ⟨[_, _], [1000], ⟨⟨_, _, rfl, rfl, .inr ⟨ag26, _, _, sz26, rfl, rfl⟩⟩, rfl, trivial⟩, ?_, rfl, rfl, rfl, rfl⟩
    rfl
  · replace hm := condF hq hm
    refine TL_want rfl rfl ?_
    refine TL_pure rfl rfl rfl rfl (op_move rfl) ?_
    refine TL_want rfl rfl ?_
    obtain ⟨r10, hr10, hm⟩ := bindS hm
    refine TL_callF (c_spec_l02All p1 (10 : Int) r10 hr10) Try.call81 rfl rfl rfl rfl rfl ?_
    refine TL_want rfl rfl ?_
    refine TL_pure rfl rfl rfl rfl (op_not rfl) ?_
    refine TL_pure rfl rfl rfl rfl (op_pick_false rfl rfl) ?_
    refine TL_nil ?_
    refine T_cond rfl (fun hq => ?_) (fun hq => ?_)
    · replace hm := condT hq hm
      refine T_seq ?_
      refine T_region ?_
      refine TL_pure rfl rfl rfl rfl (op_buildP pl26 z26 rfl rfl rfl rfl rfl) ?_
      refine TL_store_box sz26 rfl rfl rfl rfl rfl rfl rfl rfl rfl ?_
      refine TL_pure rfl rfl rfl rfl (op_assign rfl) ?_
      refine TL_nil ?_
      refine T_ownNilBox 12 1 14 ⟨false, true⟩ 2 rfl rfl rfl (sz := 1) rfl rfl rfl rfl ?_
      refine T_keepH [4, 5] [12, 14] rfl rfl rfl rfl (by rw [hF]; rfl) ?_
      refine T_ren [(12, 12), (14, 1000)] rfl rfl rfl (by rw [hF]; rfl) ?_
      refine T_ret ?_
      obtain rfl := someI hm
      refine ⟨[_, _], [1000], ⟨⟨_, _, rfl, rfl, .inr ⟨ag26, _, _, sz26, rfl, rfl⟩⟩, rfl, trivial⟩, ?_, rfl, rfl, rfl, rfl⟩
      rfl
    · replace hm := condF hq hm
      refine T_skip ?_
      refine T_seq ?_
      refine T_region ?_
      refine TL_pure rfl rfl rfl rfl (op_move rfl) ?_
      obtain ⟨r15, hr15, hm⟩ := bindS hm
      refine TL_callO [(1000, 15)] (c_spec_l02Replace p0 p1 r15 hr15) Try.call84 rfl rfl rfl rfl rfl rfl rfl rfl rfl rfl rfl rfl rfl ?_
      refine TL_pure rfl rfl rfl rfl (op_extract rfl rfl) ?_
      refine TL_pure rfl rfl rfl rfl (op_extract rfl rfl) ?_
      refine TL_store_box sz26 rfl rfl rfl rfl rfl rfl rfl rfl rfl ?_
      refine TL_pure rfl rfl rfl rfl (op_assign rfl) ?_
      refine TL_nil ?_
      refine T_keepH [4, 5] [12, 15] rfl rfl rfl rfl (by rw [hF]; rfl) ?_
      refine T_ren [(12, 12), (15, 1000)] rfl rfl rfl (by rw [hF]; rfl) ?_
      refine T_ret ?_
      obtain rfl := someI hm
      refine ⟨[_, _], [1000], ⟨⟨_, _, rfl, rfl, .inr ⟨ag26, _, _, sz26, rfl, rfl⟩⟩, rfl, trivial⟩, ?_, rfl, rfl, rfl, rfl⟩
      rfl

theorem c_impl_within (p0 : Int) (p1 : Int) (p2 : Int) (out : Bool) (hm : m_impl_within p0 p1 p2 = some out) : ACall Try.prog 93 [.int .i64 p0, .int .i64 p1, .int .i64 p2] [] (.bool out) [] := by
  refine ACall.intro Try.func93 rfl Try.ntmps93 rfl (fun F hF => ?_)
  unfold m_impl_within at hm
  refine T_seq ?_
  refine T_region ?_
  refine TL_pure rfl rfl rfl rfl (op_assign rfl) ?_
  refine TL_nil ?_
  refine T_seq ?_
  refine T_region ?_
  refine TL_pure rfl rfl rfl rfl (op_move rfl) ?_
  refine TL_pure rfl rfl rfl rfl (op_move rfl) ?_
  refine TL_pure rfl rfl rfl rfl (op_leq rfl rfl) ?_
  refine TL_pure rfl rfl rfl rfl (op_move rfl) ?_
  refine TL_join 4 (fun _ : Unit => ⟨[(14, .bool ((decide (p1 ≤ p0)) && (decide (p0 ≤ p2))))], []⟩) (fun _ => True) (fun _ _ => ?_) (fun hjj => ?_)
  · refine TL_pure rfl rfl rfl rfl (op_assign rfl) ?_
    refine TL_nil ?_
    refine T_keepH [6] [] rfl rfl rfl rfl (by rw [hF]; rfl) ?_
    refine T_ret ?_
    obtain rfl := someI hm
    refine ⟨[_], [], ⟨rfl, trivial⟩, ?_, rfl, rfl, rfl, rfl⟩
    rfl
  · refine TL_split 10 rfl rfl rfl (fun hq => ?_) (fun hq => ?_)
    · refine TL_want rfl rfl ?_
      refine TL_pure rfl rfl rfl rfl (op_move rfl) ?_
      refine TL_want rfl rfl ?_
      refine TL_pure rfl rfl rfl rfl (op_move rfl) ?_
      refine TL_want rfl rfl ?_
      refine TL_pure rfl rfl rfl rfl (op_leq rfl rfl) ?_
      refine TL_pure rfl rfl rfl rfl (op_pick_true rfl rfl) ?_
      refine TL_keepH [14] [] rfl rfl rfl rfl (by rw [hF]; rfl) ?_
      exact TL_cast _ (by rw [hq]; rfl) (hjj () trivial)
    · refine TL_pass rfl rfl rfl rfl rfl rfl rfl ?_
      refine TL_pass rfl rfl rfl rfl rfl rfl rfl ?_
      refine TL_pass rfl rfl rfl rfl rfl rfl rfl ?_
      refine TL_pure rfl rfl rfl rfl (op_pick_false rfl rfl) ?_
      refine TL_keepH [14] [] rfl rfl rfl rfl (by rw [hF]; rfl) ?_
      exact TL_cast _ (by rw [hq]; rfl) (hjj () trivial)

theorem c_impl_isCoeff (p0 : Int) (out : Bool) (hm : m_impl_isCoeff p0 = some out) : ACall Try.prog 64 [.int .i64 p0] [] (.bool out) [] := by
  refine ACall.intro Try.func64 rfl Try.ntmps64 rfl (fun F hF => ?_)
  unfold m_impl_isCoeff at hm
  refine T_seq ?_
  refine T_region ?_
  refine TL_pure rfl rfl rfl rfl (op_assign rfl) ?_
  refine TL_nil ?_
  refine T_seq ?_
  refine T_region ?_
  refine TL_pure rfl rfl rfl rfl (op_move rfl) ?_
  obtain ⟨r4, hr4, hm⟩ := bindS hm
  refine TL_callF (c_impl_within p0 (-1000000 : Int) (1000000 : Int) r4 hr4) Try.call93 rfl rfl rfl rfl rfl ?_
  refine TL_pure rfl rfl rfl rfl (op_assign rfl) ?_
  refine TL_nil ?_
  refine T_keepH [2] [] rfl rfl rfl rfl (by rw [hF]; rfl) ?_
  refine T_ret ?_
  obtain rfl := someI hm
  refine ⟨[_], [], ⟨rfl, trivial⟩, ?_, rfl, rfl, rfl, rfl⟩
  rfl

theorem c_impl_allWithin (p0 : List Int) (p1 : Int) (p2 : Int) (out : Bool) (hm : m_impl_allWithin p0 p1 p2 = some out) : ACall Try.prog 79 [.sl 1 (List.map a_i64 p0), .int .i64 p1, .int .i64 p2] [] (.bool out) [] := by
  refine ACall.intro Try.func79 rfl Try.ntmps79 rfl (fun F hF => ?_)
  unfold m_impl_allWithin at hm
  refine T_seq ?_
  refine T_region ?_
  refine TL_pure rfl rfl rfl rfl (op_assign rfl) ?_
  refine TL_nil ?_
  refine T_seq ?_
  refine T_seq ?_
  refine T_region ?_
  refine TL_pure rfl rfl rfl rfl (op_move rfl) ?_
  refine TL_pure rfl rfl rfl rfl (op_lenT Try.underlying24 rfl (List.length_map _)) ?_
  refine TL_fact (fun _ _ _ hr => RelP.slLen (i := 9) rfl hr) (fun hlen10 => ?_)
  rw [List.length_map] at hlen10
  refine TL_pure rfl rfl rfl rfl (op_move rfl) ?_
  refine TL_nil ?_
  refine T_block ?_
  refine T_keepH [1, 2, 9, 10, 11] [] rfl rfl rfl rfl (by rw [hF]; rfl) ?_
  refine T_loop ?_
  obtain ⟨u0, hl0, hm⟩ := bindS hm
  refine TR_forL2 p0 (m_impl_allWithin_L0 p1 p2) (fun (s0 : Unit) => (.inl ())) (fun n0 (s0 : Unit) => ⟨[(1, .int .i64 p1), (2, .int .i64 p2), (9, .sl 1 (List.map a_i64 p0)), (10, .int .i64 (p0.length : Int)), (11, .int .i64 (n0 : Int))], []⟩) (fun u0 => match u0 with | .inl u0 => .exit 0 | .inr u0 => .ret) (fun u0 => match u0 with | .inl u0 => ⟨[], []⟩ | .inr u0 => ⟨[(6, .bool u0)], []⟩) (fun u0 => m_impl_allWithin_A0 u0 = some out) hl0 hm (fun u0 hm => ?_) (fun hx0 s0 hm => ?_) (fun hx0 n0 x0 s0 c0 hxn0 hlt0 hm hc0 => ?_)
  · rcases u0 with u0 | u0
    · unfold m_impl_allWithin_A0 at hm
      refine T_seq ?_
      refine T_region ?_
      refine TL_pure rfl rfl rfl rfl (op_assign rfl) ?_
      refine TL_nil ?_
      refine T_keepH [6] [] rfl rfl rfl rfl (by rw [hF]; rfl) ?_
      refine T_ret ?_
      obtain rfl := someI hm
      refine ⟨[_], [], ⟨rfl, trivial⟩, ?_, rfl, rfl, rfl, rfl⟩
      rfl
    · unfold m_impl_allWithin_A0 at hm
      obtain rfl := someI hm
      refine ⟨[_], [], ⟨rfl, trivial⟩, ?_, rfl, rfl, rfl, rfl⟩
      rfl
  · refine T_seq ?_
    refine T_region ?_
    refine TL_pure rfl rfl rfl rfl (op_lss rfl rfl) ?_
    refine TL_nil ?_
    refine T_seq ?_
    refine T_if_false rfl (decide_eq_false (by simp)) ?_
    refine T_keepH [] [] rfl rfl rfl rfl (by rw [hF]; rfl) ?_
    refine T_exit ?_
    exact hx0 (.inl ()) hm
  · unfold m_impl_allWithin_L0 at hm
    refine T_seq ?_
    refine T_region ?_
    refine TL_pure rfl rfl rfl rfl (op_lss rfl rfl) ?_
    refine TL_nil ?_
    refine T_seq ?_
    refine T_if_true rfl (decide_eq_true (Int.ofNat_lt.2 hlt0)) ?_
    refine T_skip ?_
    refine T_seq ?_
    refine T_block ?_
    refine T_seq ?_
    refine T_region ?_
    refine TL_pure rfl rfl rfl rfl (op_index_sl el24 rfl rfl rfl (get_map hxn0) rfl) ?_
    refine TL_pure rfl rfl rfl rfl (op_load_one ag2 rfl rfl) ?_
    refine TL_pure rfl rfl rfl rfl (op_assign rfl) ?_
    refine TL_nil ?_
    refine T_seq ?_
    refine T_region ?_
    refine TL_pure rfl rfl rfl rfl (op_move rfl) ?_
    refine TL_pure rfl rfl rfl rfl (op_move rfl) ?_
    refine TL_pure rfl rfl rfl rfl (op_move rfl) ?_
    obtain ⟨r18, hr18, hm⟩ := bindS hm
    refine TL_callF (c_impl_within x0 p1 p2 r18 hr18) Try.call93 rfl rfl rfl rfl rfl ?_
    refine TL_pure rfl rfl rfl rfl (op_not rfl) ?_
    refine TL_nil ?_
    refine T_cond rfl (fun hq => ?_) (fun hq => ?_)
    · replace hm := condT hq hm
      refine T_seq ?_
      refine T_region ?_
      refine TL_pure rfl rfl rfl rfl (op_assign rfl) ?_
      refine TL_nil ?_
      refine T_keepH [6] [] rfl rfl rfl rfl (by rw [hF]; rfl) ?_
      refine T_ret ?_
      obtain rfl := someI hm
      have hn := CtlOK_out hc0
      exact hx0 (.inr false) hn
    · replace hm := condF hq hm
      refine T_skip ?_
      refine T_region ?_
      refine TL_pure rfl rfl rfl rfl (op_addN rfl rfl (Nat.lt_of_lt_of_le hlt0 hlen10)) ?_
      refine TL_pure rfl rfl rfl rfl (op_move rfl) ?_
      refine TL_nil ?_
      refine TR_keepH [1, 2, 9, 10, 11] [] rfl rfl rfl rfl (by rw [hF]; rfl) ?_
      obtain rfl := someI hm
      have hn := CtlOK_next hc0
      exact hn _ rfl

theorem c_impl_ValidTerm (p0 : Term) (out : Bool) (hm : m_impl_ValidTerm p0 = some out) : ACall Try.prog 60 [.agg [.int .i64 p0.Const, .sl 1 (List.map a_i64 p0.Coeffs)]] [] (.bool out) [] := by
  refine ACall.intro Try.func60 rfl Try.ntmps60 rfl (fun F hF => ?_)
  unfold m_impl_ValidTerm at hm
  refine T_seq ?_
  refine T_region ?_
  refine TL_box 11 rfl rfl rfl rfl rfl rfl rfl ?_
  refine TL_pure rfl rfl rfl rfl (op_assign rfl) ?_
  refine TL_nil ?_
  refine T_seq ?_
  refine T_region ?_
  refine TL_pure rfl rfl rfl rfl (op_fieldAddr fa26_1 rfl rfl) ?_
  refine TL_pure rfl rfl rfl rfl (op_load_one ag24 rfl rfl) ?_
  refine TL_pure rfl rfl rfl rfl (op_lenT Try.underlying24 rfl (List.length_map _)) ?_
  refine TL_fact (fun _ _ _ hr => RelP.slLen (i := 5) rfl hr) (fun hlen6 => ?_)
  rw [List.length_map] at hlen6
  refine TL_pure rfl rfl rfl rfl (op_assign rfl) ?_
  refine TL_nil ?_
  refine T_seq ?_
  refine T_region ?_
  refine TL_pure rfl rfl rfl rfl (op_move rfl) ?_
  refine TL_pure rfl rfl rfl rfl (op_leq rfl rfl) ?_
  refine TL_pure rfl rfl rfl rfl (op_move rfl) ?_
  refine TL_split 9 rfl rfl rfl (fun hq => ?_) (fun hq => ?_)
  · replace hm := condT hq hm
    refine TL_want rfl rfl ?_
    refine TL_pure rfl rfl rfl rfl (op_fieldAddr fa26_0 rfl rfl) ?_
    refine TL_want rfl rfl ?_
    refine TL_pure rfl rfl rfl rfl (op_load_one ag2 rfl rfl) ?_
    refine TL_want rfl rfl ?_
    obtain ⟨r12, hr12, hm⟩ := bindS hm
    refine TL_callF (c_impl_isCoeff p0.Const r12 hr12) Try.call64 rfl rfl rfl rfl rfl ?_
    refine TL_pure rfl rfl rfl rfl (op_pick_true rfl rfl) ?_
    refine TL_pure rfl rfl rfl rfl (op_move rfl) ?_
    refine TL_split 14 rfl rfl rfl (fun hq => ?_) (fun hq => ?_)
    · replace hm := condT hq hm
      refine TL_want rfl rfl ?_
      refine TL_pure rfl rfl rfl rfl (op_fieldAddr fa26_1 rfl rfl) ?_
      refine TL_want rfl rfl ?_
      refine TL_pure rfl rfl rfl rfl (op_load_one ag24 rfl rfl) ?_
      refine TL_want rfl rfl ?_
      obtain ⟨r17, hr17, hm⟩ := bindS hm
      refine TL_callF (c_impl_allWithin p0.Coeffs (-1000000 : Int) (1000000 : Int) r17 hr17) Try.call79 rfl rfl rfl rfl rfl ?_
      refine TL_pure rfl rfl rfl rfl (op_pick_true rfl rfl) ?_
      refine TL_pure rfl rfl rfl rfl (op_move rfl) ?_
      refine TL_split 19 rfl rfl rfl (fun hq => ?_) (fun hq => ?_)
      · replace hm := condT hq hm
        refine TL_want rfl rfl ?_
        refine TL_pure rfl rfl rfl rfl (op_move rfl) ?_
        refine TL_want rfl rfl ?_
        refine TL_pure rfl rfl rfl rfl (op_eql rfl rfl) ?_
        refine TL_want rfl rfl ?_
        refine TL_pure rfl rfl rfl rfl (op_move rfl) ?_
        refine TL_split 22 rfl rfl rfl (fun hq => ?_) (fun hq => ?_)
        · replace hm := condT hq hm
          refine TL_pass rfl rfl rfl rfl rfl rfl rfl ?_
          refine TL_pass rfl rfl rfl rfl rfl rfl rfl ?_
          refine TL_pass rfl rfl rfl rfl rfl rfl rfl ?_
          refine TL_pass rfl rfl rfl rfl rfl rfl rfl ?_
          refine TL_pass rfl rfl rfl rfl rfl rfl rfl ?_
          refine TL_pass rfl rfl rfl rfl rfl rfl rfl ?_
          refine TL_pass rfl rfl rfl rfl rfl rfl rfl ?_
          refine TL_want rfl rfl ?_
          refine TL_pure rfl rfl rfl rfl (op_pick_true rfl rfl) ?_
          refine TL_pure rfl rfl rfl rfl (op_pick_true rfl rfl) ?_
          refine TL_pure rfl rfl rfl rfl (op_assign rfl) ?_
          refine TL_nil ?_
          refine T_keepH [2] [] rfl rfl rfl rfl (by rw [hF]; rfl) ?_
          refine T_ret ?_
          obtain rfl := someI hm
          refine ⟨[_], [], ⟨rfl, trivial⟩, ?_, rfl, rfl, rfl, rfl⟩
          rfl
        · replace hm := condF hq hm
          refine TL_want rfl rfl ?_
          refine TL_pure rfl rfl rfl rfl (op_fieldAddr fa26_1 rfl rfl) ?_
          refine TL_want rfl rfl ?_
          refine TL_pure rfl rfl rfl rfl (op_load_one ag24 rfl rfl) ?_
          refine TL_want rfl rfl ?_
          refine TL_pure rfl rfl rfl rfl (op_move rfl) ?_
          refine TL_want rfl rfl ?_
          refine TL_pure rfl rfl rfl rfl (op_subW rfl rfl) ?_
          refine TL_want rfl rfl ?_
          obtain ⟨x27, hx27, hm⟩ := bindS hm
          refine TL_pure rfl rfl rfl rfl (op_indexT el24 rfl rfl hx27 rfl) ?_
          refine TL_want rfl rfl ?_
          refine TL_pure rfl rfl rfl rfl (op_load_one ag2 rfl rfl) ?_
          refine TL_want rfl rfl ?_
          refine TL_pure rfl rfl rfl rfl (op_neq rfl rfl) ?_
          refine TL_want rfl rfl ?_
          refine TL_pure rfl rfl rfl rfl (op_pick_false rfl rfl) ?_
          refine TL_pure rfl rfl rfl rfl (op_pick_true rfl rfl) ?_
          refine TL_pure rfl rfl rfl rfl (op_assign rfl) ?_
          refine TL_nil ?_
          refine T_keepH [2] [] rfl rfl rfl rfl (by rw [hF]; rfl) ?_
          refine T_ret ?_
          obtain rfl := someI hm
          refine ⟨[_], [], ⟨rfl, trivial⟩, ?_, rfl, rfl, rfl, rfl⟩
          rfl
      · replace hm := condF hq hm
        refine TL_pass rfl rfl rfl rfl rfl rfl rfl ?_
        refine TL_pass rfl rfl rfl rfl rfl rfl rfl ?_
        refine TL_pass rfl rfl rfl rfl rfl rfl rfl ?_
        refine TL_pass2 rfl rfl rfl rfl rfl rfl ?_
        refine TL_pass2 rfl rfl rfl rfl rfl rfl ?_
        refine TL_pass2 rfl rfl rfl rfl rfl rfl ?_
        refine TL_pass2 rfl rfl rfl rfl rfl rfl ?_
        refine TL_pass2 rfl rfl rfl rfl rfl rfl ?_
        refine TL_pass2 rfl rfl rfl rfl rfl rfl ?_
        refine TL_pass2 rfl rfl rfl rfl rfl rfl ?_
        refine TL_pass rfl rfl rfl rfl rfl rfl rfl ?_
        refine TL_pure rfl rfl rfl rfl (op_pick_false rfl rfl) ?_
        refine TL_pure rfl rfl rfl rfl (op_assign rfl) ?_
        refine TL_nil ?_
        refine T_keepH [2] [] rfl rfl rfl rfl (by rw [hF]; rfl) ?_
        refine T_ret ?_
        obtain rfl := someI hm
        refine ⟨[_], [], ⟨rfl, trivial⟩, ?_, rfl, rfl, rfl, rfl⟩
        rfl
    · replace hm := condF hq hm
      refine TL_pass rfl rfl rfl rfl rfl rfl rfl ?_
      refine TL_pass rfl rfl rfl rfl rfl rfl rfl ?_
      refine TL_pass rfl rfl rfl rfl rfl rfl rfl ?_
      refine TL_pure rfl rfl rfl rfl (op_pick_false rfl rfl) ?_
      refine TL_pure rfl rfl rfl rfl (op_move rfl) ?_
      refine TL_pass rfl rfl rfl rfl rfl rfl rfl ?_
      refine TL_pass rfl rfl rfl rfl rfl rfl rfl ?_
      refine TL_pass rfl rfl rfl rfl rfl rfl rfl ?_
      refine TL_pass2 rfl rfl rfl rfl rfl rfl ?_
      refine TL_pass2 rfl rfl rfl rfl rfl rfl ?_
      refine TL_pass2 rfl rfl rfl rfl rfl rfl ?_
      refine TL_pass2 rfl rfl rfl rfl rfl rfl ?_
      refine TL_pass2 rfl rfl rfl rfl rfl rfl ?_
      refine TL_pass2 rfl rfl rfl rfl rfl rfl ?_
      refine TL_pass2 rfl rfl rfl rfl rfl rfl ?_
      refine TL_pass rfl rfl rfl rfl rfl rfl rfl ?_
      refine TL_pure rfl rfl rfl rfl (op_pick_false rfl rfl) ?_
      refine TL_pure rfl rfl rfl rfl (op_assign rfl) ?_
      refine TL_nil ?_
      refine T_keepH [2] [] rfl rfl rfl rfl (by rw [hF]; rfl) ?_
      refine T_ret ?_
      obtain rfl := someI hm
      refine ⟨[_], [], ⟨rfl, trivial⟩, ?_, rfl, rfl, rfl, rfl⟩
      rfl
  · replace hm := condF hq hm
    refine TL_pass rfl rfl rfl rfl rfl rfl rfl ?_
    refine TL_pass rfl rfl rfl rfl rfl rfl rfl ?_
    refine TL_pass rfl rfl rfl rfl rfl rfl rfl ?_
    refine TL_pure rfl rfl rfl rfl (op_pick_false rfl rfl) ?_
    refine TL_pure rfl rfl rfl rfl (op_move rfl) ?_
    refine TL_pass rfl rfl rfl rfl rfl rfl rfl ?_
    refine TL_pass rfl rfl rfl rfl rfl rfl rfl ?_
    refine TL_pass rfl rfl rfl rfl rfl rfl rfl ?_
    refine TL_pure rfl rfl rfl rfl (op_pick_false rfl rfl) ?_
    refine TL_pure rfl rfl rfl rfl (op_move rfl) ?_
    refine TL_pass rfl rfl rfl rfl rfl rfl rfl ?_
    refine TL_pass rfl rfl rfl rfl rfl rfl rfl ?_
    refine TL_pass rfl rfl rfl rfl rfl rfl rfl ?_
    refine TL_pass2 rfl rfl rfl rfl rfl rfl ?_
    refine TL_pass2 rfl rfl rfl rfl rfl rfl ?_
    refine TL_pass2 rfl rfl rfl rfl rfl rfl ?_
    refine TL_pass2 rfl rfl rfl rfl rfl rfl ?_
    refine TL_pass2 rfl rfl rfl rfl rfl rfl ?_
    refine TL_pass2 rfl rfl rfl rfl rfl rfl ?_
    refine TL_pass2 rfl rfl rfl rfl rfl rfl ?_
    refine TL_pass rfl rfl rfl rfl rfl rfl rfl ?_
    refine TL_pure rfl rfl rfl rfl (op_pick_false rfl rfl) ?_
    refine TL_pure rfl rfl rfl rfl (op_assign rfl) ?_
    refine TL_nil ?_
    refine T_keepH [2] [] rfl rfl rfl rfl (by rw [hF]; rfl) ?_
    refine T_ret ?_
    obtain rfl := someI hm
    refine ⟨[_], [], ⟨rfl, trivial⟩, ?_, rfl, rfl, rfl, rfl⟩
    rfl

theorem c_impl_areTerms (p0 : List Term) (p1 : Int) (out : Bool) (hm : m_impl_areTerms p0 p1 = some out) : ACall Try.prog 73 [.sl 2 (List.map a_Term p0), .int .i64 p1] [] (.bool out) [] := by
  refine ACall.intro Try.func73 rfl Try.ntmps73 rfl (fun F hF => ?_)
  unfold m_impl_areTerms at hm
  refine T_seq ?_
  refine T_region ?_
  refine TL_pure rfl rfl rfl rfl (op_assign rfl) ?_
  refine TL_nil ?_
  refine T_seq ?_
  refine T_seq ?_
  refine T_region ?_
  refine TL_pure rfl rfl rfl rfl (op_move rfl) ?_
  refine TL_pure rfl rfl rfl rfl (op_lenT Try.underlying43 rfl (List.length_map _)) ?_
  refine TL_fact (fun _ _ _ hr => RelP.slLen (i := 7) rfl hr) (fun hlen8 => ?_)
  rw [List.length_map] at hlen8
  refine TL_pure rfl rfl rfl rfl (op_move rfl) ?_
  refine TL_pure rfl rfl rfl rfl (op_gtr rfl rfl) ?_
  refine TL_nil ?_
  refine T_cond rfl (fun hq => ?_) (fun hq => ?_)
  · replace hm := condT hq hm
    refine T_seq ?_
    refine T_region ?_
    refine TL_pure rfl rfl rfl rfl (op_assign rfl) ?_
    refine TL_nil ?_
    refine T_keepH [4] [] rfl rfl rfl rfl (by rw [hF]; rfl) ?_
    refine T_ret ?_
    obtain rfl := someI hm
    refine ⟨[_], [], ⟨rfl, trivial⟩, ?_, rfl, rfl, rfl, rfl⟩
    rfl
  · replace hm := condF hq hm
    refine T_skip ?_
    refine T_seq ?_
    refine T_seq ?_
    refine T_region ?_
    refine TL_pure rfl rfl rfl rfl (op_move rfl) ?_
    refine TL_pure rfl rfl rfl rfl (op_lenT Try.underlying43 rfl (List.length_map _)) ?_
    refine TL_pure rfl rfl rfl rfl (op_move rfl) ?_
    refine TL_nil ?_
    refine T_block ?_
    refine T_keepH [11, 12, 13] [] rfl rfl rfl rfl (by rw [hF]; rfl) ?_
    refine T_loop ?_
    obtain ⟨u0, hl0, hm⟩ := bindS hm
    refine TR_forL2 p0 (m_impl_areTerms_L0) (fun (s0 : Unit) => (.inl ())) (fun n0 (s0 : Unit) => ⟨[(11, .sl 2 (List.map a_Term p0)), (12, .int .i64 (p0.length : Int)), (13, .int .i64 (n0 : Int))], []⟩) (fun u0 => match u0 with | .inl u0 => .exit 0 | .inr u0 => .ret) (fun u0 => match u0 with | .inl u0 => ⟨[], []⟩ | .inr u0 => ⟨[(4, .bool u0)], []⟩) (fun u0 => m_impl_areTerms_A0 u0 = some out) hl0 hm (fun u0 hm => ?_) (fun hx0 s0 hm => ?_) (fun hx0 n0 x0 s0 c0 hxn0 hlt0 hm hc0 => ?_)
    · rcases u0 with u0 | u0
      · unfold m_impl_areTerms_A0 at hm
        refine T_seq ?_
        refine T_region ?_
        refine TL_pure rfl rfl rfl rfl (op_assign rfl) ?_
        refine TL_nil ?_
        refine T_keepH [4] [] rfl rfl rfl rfl (by rw [hF]; rfl) ?_
        refine T_ret ?_
        obtain rfl := someI hm
        refine ⟨[_], [], ⟨rfl, trivial⟩, ?_, rfl, rfl, rfl, rfl⟩
        rfl
      · unfold m_impl_areTerms_A0 at hm
        obtain rfl := someI hm
        refine ⟨[_], [], ⟨rfl, trivial⟩, ?_, rfl, rfl, rfl, rfl⟩
        rfl
    · refine T_seq ?_
      refine T_region ?_
      refine TL_pure rfl rfl rfl rfl (op_lss rfl rfl) ?_
      refine TL_nil ?_
      refine T_seq ?_
      refine T_if_false rfl (decide_eq_false (by simp)) ?_
      refine T_keepH [] [] rfl rfl rfl rfl (by rw [hF]; rfl) ?_
      refine T_exit ?_
      exact hx0 (.inl ()) hm
    · unfold m_impl_areTerms_L0 at hm
      refine T_seq ?_
      refine T_region ?_
      refine TL_pure rfl rfl rfl rfl (op_lss rfl rfl) ?_
      refine TL_nil ?_
      refine T_seq ?_
      refine T_if_true rfl (decide_eq_true (Int.ofNat_lt.2 hlt0)) ?_
      refine T_skip ?_
      refine T_seq ?_
      refine T_block ?_
      refine T_seq ?_
      refine T_region ?_
      refine TL_pure rfl rfl rfl rfl (op_index_sl el43 rfl rfl rfl (get_map hxn0) rfl) ?_
      refine TL_pure rfl rfl rfl rfl (op_load_agg ag26 sz26 rfl rfl rfl) ?_
      refine TL_alloc 12 z26 rfl rfl rfl rfl rfl rfl rfl ?_
      refine TL_store_box sz26 rfl rfl rfl rfl rfl rfl rfl rfl rfl ?_
      refine TL_nil ?_
      refine T_seq ?_
      refine T_region ?_
      refine TL_pure rfl rfl rfl rfl (op_load_agg ag26 sz26 rfl rfl rfl) ?_
      obtain ⟨r18, hr18, hm⟩ := bindS hm
      refine TL_callF (c_impl_ValidTerm x0 r18 hr18) Try.call60 rfl rfl rfl rfl rfl ?_
      refine TL_pure rfl rfl rfl rfl (op_not rfl) ?_
      refine TL_nil ?_
      refine T_cond rfl (fun hq => ?_) (fun hq => ?_)
      · replace hm := condT hq hm
        refine T_seq ?_
        refine T_region ?_
        refine TL_pure rfl rfl rfl rfl (op_assign rfl) ?_
        refine TL_nil ?_
        refine T_keepH [4] [] rfl rfl rfl rfl (by rw [hF]; rfl) ?_
        refine T_ret ?_
        obtain rfl := someI hm
        have hn := CtlOK_out hc0
        exact hx0 (.inr false) hn
      · replace hm := condF hq hm
        refine T_skip ?_
        refine T_region ?_
        refine TL_pure rfl rfl rfl rfl (op_addN rfl rfl (Nat.lt_of_lt_of_le hlt0 hlen8)) ?_
        refine TL_pure rfl rfl rfl rfl (op_move rfl) ?_
        refine TL_nil ?_
        refine TR_keepH [11, 12, 13] [] rfl rfl rfl rfl (by rw [hF]; rfl) ?_
        obtain rfl := someI hm
        have hn := CtlOK_next hc0
        exact hn _ rfl

theorem c_impl_Term_trimmed (p0 : Term) (out : Term) (hm : m_impl_Term_trimmed p0 = some out) : ACall Try.prog 94 [.agg [.int .i64 p0.Const, .sl 1 (List.map a_i64 p0.Coeffs)]] [] (.agg [.int .i64 out.Const, .sl 1 (List.map a_i64 out.Coeffs)]) [] := by
  refine ACall.intro Try.func94 rfl Try.ntmps94 rfl (fun F hF => ?_)
  unfold m_impl_Term_trimmed at hm
  refine T_seq ?_
  refine T_region ?_
  refine TL_box 11 rfl rfl rfl rfl rfl rfl rfl ?_
  refine TL_alloc 12 z26 rfl rfl rfl rfl rfl rfl rfl ?_
  refine TL_nil ?_
  refine T_seq ?_
  refine T_region ?_
  refine TL_pure rfl rfl rfl rfl (op_fieldAddr fa26_1 rfl rfl) ?_
  refine TL_pure rfl rfl rfl rfl (op_load_one ag24 rfl rfl) ?_
  refine TL_pure rfl rfl rfl rfl (op_lenT Try.underlying24 rfl (List.length_map _)) ?_
  refine TL_fact (fun _ _ _ hr => RelP.slLen (i := 5) rfl hr) (fun hlen6 => ?_)
  rw [List.length_map] at hlen6
  refine TL_pure rfl rfl rfl rfl (op_assign rfl) ?_
  refine TL_nil ?_
  refine T_seq ?_
  refine T_block ?_
  refine T_keepH [1, 2, 3] [11, 12] rfl rfl rfl rfl (by rw [hF]; rfl) ?_
  refine T_loop ?_
  obtain ⟨u0, hl0, hm⟩ := bindS hm
  refine TR_iter2 (m_impl_Term_trimmed_L0 p0) (fun (s0 : Int) => ⟨[(1, .ptr 11 0 0), (2, .ptr 12 0 0), (3, .int .i64 s0)], [(11, .box [.int .i64 p0.Const, .sl 1 (List.map a_i64 p0.Coeffs)]), (12, .box [.int .i64 (0 : Int), .snil])]⟩) (fun u0 => .exit 0) (fun u0 => ⟨[(1, .ptr 11 0 0), (2, .ptr 12 0 0), (3, .int .i64 u0)], [(11, .box [.int .i64 p0.Const, .sl 1 (List.map a_i64 p0.Coeffs)]), (12, .box [.int .i64 (0 : Int), .snil])]⟩) (fun u0 => m_impl_Term_trimmed_A0 p0 u0 = some out) hl0 hm (fun u0 hm => ?_) (fun hx0 s0 c0 hm hc0 => ?_)
  · unfold m_impl_Term_trimmed_A0 at hm
    refine T_seq ?_
    refine T_region ?_
    refine TL_pure rfl rfl rfl rfl (op_fieldAddr fa26_1 rfl rfl) ?_
    refine TL_pure rfl rfl rfl rfl (op_load_one ag24 rfl rfl) ?_
    refine TL_pure rfl rfl rfl rfl (op_move rfl) ?_
    obtain ⟨y23, hy23, hm⟩ := bindS hm
    refine TL_pure rfl rfl rfl rfl (op_sliceI el24 rfl ⟨rfl, ⟨_, rfl⟩⟩ hy23) ?_
    refine TL_pure rfl rfl rfl rfl (op_fieldAddr fa26_1 rfl rfl) ?_
    refine TL_store_box sz24 rfl rfl rfl rfl rfl rfl rfl rfl rfl ?_
    refine TL_nil ?_
    refine T_seq ?_
    refine T_region ?_
    refine TL_pure rfl rfl rfl rfl (op_load_agg ag26 sz26 rfl rfl rfl) ?_
    refine TL_store_box sz26 rfl rfl rfl rfl rfl rfl rfl rfl rfl ?_
    refine TL_nil ?_
    refine T_keepH [2] [12] rfl rfl rfl rfl (by rw [hF]; rfl) ?_
    refine T_ret ?_
    obtain rfl := someI hm
    refine ⟨[_], [], ⟨⟨_, _, rfl, rfl, .inr ⟨ag26, _, _, sz26, rfl, rfl⟩⟩, trivial⟩, ?_, rfl, rfl, rfl, rfl⟩
    rfl
  · unfold m_impl_Term_trimmed_L0 at hm
    refine T_seq ?_
    refine T_seq ?_
    refine T_region ?_
    refine TL_pure rfl rfl rfl rfl (op_move rfl) ?_
    refine TL_pure rfl rfl rfl rfl (op_gtr rfl rfl) ?_
    refine TL_pure rfl rfl rfl rfl (op_move rfl) ?_
    refine TL_split 9 rfl rfl rfl (fun hq => ?_) (fun hq => ?_)
    · replace hm := condT hq hm
      refine TL_want rfl rfl ?_
      refine TL_pure rfl rfl rfl rfl (op_fieldAddr fa26_1 rfl rfl) ?_
      refine TL_want rfl rfl ?_
      refine TL_pure rfl rfl rfl rfl (op_load_one ag24 rfl rfl) ?_
      refine TL_want rfl rfl ?_
      refine TL_pure rfl rfl rfl rfl (op_move rfl) ?_
      refine TL_want rfl rfl ?_
      refine TL_pure rfl rfl rfl rfl (op_subW rfl rfl) ?_
      refine TL_want rfl rfl ?_
      obtain ⟨x14, hx14, hm⟩ := bindS hm
      refine TL_pure rfl rfl rfl rfl (op_indexT el24 rfl rfl hx14 rfl) ?_
      refine TL_want rfl rfl ?_
      refine TL_pure rfl rfl rfl rfl (op_load_one ag2 rfl rfl) ?_
      refine TL_want rfl rfl ?_
      refine TL_pure rfl rfl rfl rfl (op_eql rfl rfl) ?_
      refine TL_pure rfl rfl rfl rfl (op_pick_true rfl rfl) ?_
      refine TL_nil ?_
      refine T_cond rfl (fun hq => ?_) (fun hq => ?_)
      · replace hm := condT hq hm
        refine T_skip ?_
        refine T_block ?_
        refine T_region ?_
        refine TL_pure rfl rfl rfl rfl (op_move rfl) ?_
        refine TL_pure rfl rfl rfl rfl (op_subW rfl rfl) ?_
        refine TL_pure rfl rfl rfl rfl (op_assign rfl) ?_
        refine TL_nil ?_
        refine TR_keepH [1, 2, 3] [11, 12] rfl rfl rfl rfl (by rw [hF]; rfl) ?_
        obtain rfl := someI hm
        have hn := CtlOK_next hc0
        exact hn _ rfl
      · replace hm := condF hq hm
        refine T_keepH [1, 2, 3] [11, 12] rfl rfl rfl rfl (by rw [hF]; rfl) ?_
        refine T_exit ?_
        obtain rfl := someI hm
        have hn := CtlOK_out hc0
        exact hx0 s0 hn
    · replace hm := condF hq hm
      refine TL_pass rfl rfl rfl rfl rfl rfl rfl ?_
      refine TL_pass rfl rfl rfl rfl rfl rfl rfl ?_
      refine TL_pass rfl rfl rfl rfl rfl rfl rfl ?_
      refine TL_pass rfl rfl rfl rfl rfl rfl rfl ?_
      refine TL_pass rfl rfl rfl rfl rfl rfl rfl ?_
      refine TL_pass rfl rfl rfl rfl rfl rfl rfl ?_
      refine TL_pass rfl rfl rfl rfl rfl rfl rfl ?_
      refine TL_pure rfl rfl rfl rfl (op_pick_false rfl rfl) ?_
      refine TL_nil ?_
      refine T_cond_false rfl ?_
      refine T_keepH [1, 2, 3] [11, 12] rfl rfl rfl rfl (by rw [hF]; rfl) ?_
      refine T_exit ?_
      obtain rfl := someI hm
      have hn := CtlOK_out hc0
      exact hx0 s0 hn

theorem c_impl_combined (p0 : List Term) (p1 : List Int) (out : Term) (hm : m_impl_combined p0 p1 = some out) : ACall Try.prog 65 [.sl 2 (List.map a_Term p0), .sl 1 (List.map a_i64 p1)] [] (.agg [.int .i64 out.Const, .sl 1 (List.map a_i64 out.Coeffs)]) [] := by
  refine ACall.intro Try.func65 rfl Try.ntmps65 rfl (fun F hF => ?_)
  unfold m_impl_combined at hm
  refine T_seq ?_
  refine T_region ?_
  refine TL_alloc 11 z26 rfl rfl rfl rfl rfl rfl rfl ?_
  refine TL_nil ?_
  refine T_seq ?_
  refine T_region ?_
  obtain ⟨k10, hk10, hm⟩ := bindS hm
  refine TL_make 12 (n := k10) el24 z2 rfl rfl rfl rfl rfl rfl (makeI_spec hk10).1 (makeI_spec hk10).1 (makeI_spec hk10).2 rfl rfl rfl rfl ?_
  refine TL_nils 12 (List.map a_i64 (List.replicate k10 (0 : Int))) (by rw [hF]; rfl) rfl (ElR.rep (z := .int .i64 (0 : Int)) (g := a_i64) (x := (0 : Int)) ⟨⟨rfl, rfl⟩, trivial⟩ k10) rfl ?_
  refine TL_pure rfl rfl rfl rfl (op_buildP pl26 z26 rfl rfl rfl rfl rfl) ?_
  refine TL_alloc 13 z26 rfl rfl rfl rfl rfl rfl rfl ?_
  refine TL_store_box sz26 rfl rfl rfl rfl rfl rfl rfl rfl rfl ?_
  refine TL_nil ?_
  refine T_seq ?_
  refine T_seq ?_
  refine T_region ?_
  refine TL_pure rfl rfl rfl rfl (op_move rfl) ?_
  refine TL_pure rfl rfl rfl rfl (op_lenT Try.underlying43 rfl (List.length_map _)) ?_
  refine TL_fact (fun _ _ _ hr => RelP.slLen (i := 12) rfl hr) (fun hlen13 => ?_)
  rw [List.length_map] at hlen13
  refine TL_pure rfl rfl rfl rfl (op_move rfl) ?_
  refine TL_nil ?_
  refine T_block ?_
  refine T_keepH [1, 4, 5, 12, 13, 14] [11, 12, 13] rfl rfl rfl rfl (by rw [hF]; rfl) ?_
  refine T_loop ?_
  obtain ⟨u0, hl0, hm⟩ := bindS hm
  refine TR_forL2 p0 (m_impl_combined_L0 p1) (fun (s0 : Int × (List Int)) => (s0.1, s0.2)) (fun n0 (s0 : Int × (List Int)) => ⟨[(1, .sl 1 (List.map a_i64 p1)), (4, .ptr 11 0 0), (5, .ptr 13 0 0), (12, .sl 2 (List.map a_Term p0)), (13, .int .i64 (p0.length : Int)), (14, .int .i64 (n0 : Int))], [(11, .box [.int .i64 (0 : Int), .snil]), (12, .arr ⟨false, false⟩ 1 2 (List.map a_i64 s0.2)), (13, .box [.int .i64 s0.1, .ow 12])]⟩) (fun u0 => .exit 0) (fun u0 => ⟨[(4, .ptr 11 0 0), (5, .ptr 13 0 0)], [(11, .box [.int .i64 (0 : Int), .snil]), (12, .arr ⟨false, false⟩ 1 2 (List.map a_i64 u0.2)), (13, .box [.int .i64 u0.1, .ow 12])]⟩) (fun u0 => m_impl_combined_A0 u0 = some out) hl0 hm (fun u0 hm => ?_) (fun hx0 s0 hm => ?_) (fun hx0 n0 x0 s0 c0 hxn0 hlt0 hm hc0 => ?_)
  · unfold m_impl_combined_A0 at hm
    refine T_seq ?_
    refine T_region ?_
    refine TL_pure rfl rfl rfl rfl (op_load_agg ag26 sz26 rfl rfl rfl) ?_
    refine TL_freeze 12 (by rw [hF]; rfl) rfl rfl rfl ?_
    obtain ⟨r54, hr54, hm⟩ := bindS hm
    refine TL_callT (c_impl_Term_trimmed (Term.mk u0.1 u0.2) r54 hr54) Try.call94 rfl rfl rfl rfl rfl ?_
    refine TL_store_box sz26 rfl rfl rfl rfl rfl rfl rfl rfl rfl ?_
    refine TL_nil ?_
    refine T_keepH [4] [11] rfl rfl rfl rfl (by rw [hF]; rfl) ?_
    refine T_ret ?_
    obtain rfl := someI hm
    refine ⟨[_], [], ⟨⟨_, _, rfl, rfl, .inr ⟨ag26, _, _, sz26, rfl, rfl⟩⟩, trivial⟩, ?_, rfl, rfl, rfl, rfl⟩
    rfl
  · refine T_seq ?_
    refine T_region ?_
    refine TL_pure rfl rfl rfl rfl (op_lss rfl rfl) ?_
    refine TL_nil ?_
    refine T_seq ?_
    refine T_if_false rfl (decide_eq_false (by simp)) ?_
    refine T_keepH [4, 5] [11, 12, 13] rfl rfl rfl rfl (by rw [hF]; rfl) ?_
    refine T_exit ?_
    exact hx0 (s0.1, s0.2) hm
  · unfold m_impl_combined_L0 at hm
    refine T_seq ?_
    refine T_region ?_
    refine TL_pure rfl rfl rfl rfl (op_lss rfl rfl) ?_
    refine TL_nil ?_
    refine T_seq ?_
    refine T_if_true rfl (decide_eq_true (Int.ofNat_lt.2 hlt0)) ?_
    refine T_skip ?_
    refine T_seq ?_
    refine T_block ?_
    refine T_seq ?_
    refine T_region ?_
    refine TL_pure rfl rfl rfl rfl (op_move rfl) ?_
    refine TL_pure rfl rfl rfl rfl (op_index_sl el43 rfl rfl rfl (get_map hxn0) rfl) ?_
    refine TL_pure rfl rfl rfl rfl (op_load_agg ag26 sz26 rfl rfl rfl) ?_
    refine TL_alloc 16 z26 rfl rfl rfl rfl rfl rfl rfl ?_
    refine TL_pure rfl rfl rfl rfl (op_assign rfl) ?_
    refine TL_store_box sz26 rfl rfl rfl rfl rfl rfl rfl rfl rfl ?_
    refine TL_nil ?_
    refine T_seq ?_
    refine T_drawZ [11] mix (by kernel_rfl) rfl ?_
    obtain ⟨x23, hx23, hm⟩ := bindS hm
    refine TZ_pure 0 (by kernel_rfl) rfl rfl rfl rfl rfl (op_fieldAddr fa26_0 rfl rfl) ?_
    refine TZ_pure 1 (by kernel_rfl) rfl rfl rfl rfl rfl (op_load_one ag2 rfl rfl) ?_
    refine TZ_pure 2 (by kernel_rfl) rfl rfl rfl rfl rfl (op_move rfl) ?_
    refine TZ_pure 3 (by kernel_rfl) rfl rfl rfl rfl rfl (op_move rfl) ?_
    refine TZ_pure 4 (by kernel_rfl) rfl rfl rfl rfl rfl (op_indexT el24 rfl rfl hx23 rfl) ?_
    refine TZ_pure 5 (by kernel_rfl) rfl rfl rfl rfl rfl (op_load_one ag2 rfl rfl) ?_
    refine TZ_pure 6 (by kernel_rfl) rfl rfl rfl rfl rfl (op_fieldAddr fa26_0 rfl rfl) ?_
    refine TZ_pure 7 (by kernel_rfl) rfl rfl rfl rfl rfl (op_load_one ag2 rfl rfl) ?_
    refine TZ_pure 8 (by kernel_rfl) rfl rfl rfl rfl rfl (op_mulW rfl rfl) ?_
    refine TZ_pure 9 (by kernel_rfl) rfl rfl rfl rfl rfl (op_addW rfl rfl) ?_
    refine TZ_pure 10 (by kernel_rfl) rfl rfl rfl rfl rfl (op_fieldAddr fa26_0 rfl rfl) ?_
    refine TZ_one 11 (by kernel_rfl) rfl ?_
    refine TL_store_box sz2 rfl rfl rfl rfl rfl rfl rfl rfl rfl ?_
    refine TL_nil ?_
    refine TZ_done (by kernel_rfl) ?_
    refine T_seq ?_
    refine T_region ?_
    refine TL_pure rfl rfl rfl rfl (op_fieldAddr fa26_1 rfl rfl) ?_
    refine TL_pure rfl rfl rfl rfl (op_load_one ag24 rfl rfl) ?_
    refine TL_pure rfl rfl rfl rfl (op_lenT Try.underlying24 rfl (List.length_map _)) ?_
    refine TL_fact (fun _ _ _ hr => RelP.slLen (i := 31) rfl hr) (fun hlen32 => ?_)
    rw [List.length_map] at hlen32
    refine TL_pure rfl rfl rfl rfl (op_move rfl) ?_
    refine TL_nil ?_
    refine T_block ?_
    refine T_keepH [1, 4, 5, 6, 12, 13, 14, 31, 32, 33] [11, 12, 13] rfl rfl rfl rfl (by rw [hF]; rfl) ?_
    refine T_loop ?_
    obtain ⟨u1, hl1, hm⟩ := bindS hm
    refine TR_forL2 x0.Coeffs (m_impl_combined_L1 x23) (fun (s1 : List Int) => s1) (fun n1 (s1 : List Int) => ⟨[(1, .sl 1 (List.map a_i64 p1)), (4, .ptr 11 0 0), (5, .ptr 13 0 0), (6, .int .i64 (n0 : Int)), (12, .sl 2 (List.map a_Term p0)), (13, .int .i64 (p0.length : Int)), (14, .int .i64 (n0 : Int)), (31, .sl 1 (List.map a_i64 x0.Coeffs)), (32, .int .i64 (x0.Coeffs.length : Int)), (33, .int .i64 (n1 : Int))], [(11, .box [.int .i64 (0 : Int), .snil]), (12, .arr ⟨false, false⟩ 1 2 (List.map a_i64 s1)), (13, .box [.int .i64 (w64 (s0.1 + (w64 (x23 * x0.Const)))), .ow 12])]⟩) (fun u1 => .exit 2) (fun u1 => ⟨[(1, .sl 1 (List.map a_i64 p1)), (4, .ptr 11 0 0), (5, .ptr 13 0 0), (12, .sl 2 (List.map a_Term p0)), (13, .int .i64 (p0.length : Int)), (14, .int .i64 (n0 : Int))], [(11, .box [.int .i64 (0 : Int), .snil]), (12, .arr ⟨false, false⟩ 1 2 (List.map a_i64 u1)), (13, .box [.int .i64 (w64 (s0.1 + (w64 (x23 * x0.Const)))), .ow 12])]⟩) (fun u1 => m_impl_combined_A1 s0 x0 x23 u1 = some c0) hl1 hm (fun u1 hm => ?_) (fun hx1 s1 hm => ?_) (fun hx1 n1 x1 s1 c1 hxn1 hlt1 hm hc1 => ?_)
    · unfold m_impl_combined_A1 at hm
      refine T_region ?_
      refine TL_pure rfl rfl rfl rfl (op_addN rfl rfl (Nat.lt_of_lt_of_le hlt0 hlen13)) ?_
      refine TL_pure rfl rfl rfl rfl (op_move rfl) ?_
      refine TL_nil ?_
      refine TR_keepH [1, 4, 5, 12, 13, 14] [11, 12, 13] rfl rfl rfl rfl (by rw [hF]; rfl) ?_
      obtain rfl := someI hm
      have hn := CtlOK_next hc0
      exact hn _ rfl
    · refine T_seq ?_
      refine T_region ?_
      refine TL_pure rfl rfl rfl rfl (op_lss rfl rfl) ?_
      refine TL_nil ?_
      refine T_seq ?_
      refine T_if_false rfl (decide_eq_false (by simp)) ?_
      refine T_keepH [1, 4, 5, 12, 13, 14] [11, 12, 13] rfl rfl rfl rfl (by rw [hF]; rfl) ?_
      refine T_exit ?_
      exact hx1 s1 hm
    · unfold m_impl_combined_L1 at hm
      refine T_seq ?_
      refine T_region ?_
      refine TL_pure rfl rfl rfl rfl (op_lss rfl rfl) ?_
      refine TL_nil ?_
      refine T_seq ?_
      refine T_if_true rfl (decide_eq_true (Int.ofNat_lt.2 hlt1)) ?_
      refine T_skip ?_
      refine T_seq ?_
      refine T_block ?_
      refine T_seq ?_
      refine T_region ?_
      refine TL_pure rfl rfl rfl rfl (op_move rfl) ?_
      refine TL_pure rfl rfl rfl rfl (op_index_sl el24 rfl rfl rfl (get_map hxn1) rfl) ?_
      refine TL_pure rfl rfl rfl rfl (op_load_one ag2 rfl rfl) ?_
      refine TL_pure rfl rfl rfl rfl (op_assign rfl) ?_
      refine TL_pure rfl rfl rfl rfl (op_assign rfl) ?_
      refine TL_nil ?_
      refine T_drawZ [13] mix (by kernel_rfl) rfl ?_
      obtain ⟨x41, hx41, hm⟩ := bindS hm
      refine TZ_pure 0 (by kernel_rfl) rfl rfl rfl rfl rfl (op_fieldAddr fa26_1 rfl rfl) ?_
      refine TZ_pure 1 (by kernel_rfl) rfl rfl rfl rfl rfl (op_load_one ag24 rfl rfl) ?_
      refine TZ_pure 2 (by kernel_rfl) rfl rfl rfl rfl rfl (op_move rfl) ?_
      refine TZ_pure 3 (by kernel_rfl) rfl rfl rfl rfl rfl (op_indexO el24 rfl rfl rfl hx41) ?_
      refine TZ_pure 4 (by kernel_rfl) rfl rfl rfl rfl rfl (op_loadT1 ag2 rfl rfl ((getI_spec hx41).2) rfl rfl) ?_
      refine TZ_pure 5 (by kernel_rfl) rfl rfl rfl rfl rfl (op_move rfl) ?_
      refine TZ_pure 6 (by kernel_rfl) rfl rfl rfl rfl rfl (op_move rfl) ?_
      refine TZ_pure 7 (by kernel_rfl) rfl rfl rfl rfl rfl (op_indexT el24 rfl rfl hx23 rfl) ?_
      refine TZ_pure 8 (by kernel_rfl) rfl rfl rfl rfl rfl (op_load_one ag2 rfl rfl) ?_
      refine TZ_pure 9 (by kernel_rfl) rfl rfl rfl rfl rfl (op_move rfl) ?_
      refine TZ_pure 10 (by kernel_rfl) rfl rfl rfl rfl rfl (op_mulW rfl rfl) ?_
      refine TZ_pure 11 (by kernel_rfl) rfl rfl rfl rfl rfl (op_addW rfl rfl) ?_
      refine TZ_pure 12 (by kernel_rfl) rfl rfl rfl rfl rfl (op_indexO el24 rfl rfl rfl hx41) ?_
      refine TZ_one 13 (by kernel_rfl) rfl ?_
      refine TL_storeT sz2 rfl rfl ((getI_spec hx41).2) (v' := (w64 (x41 + (w64 (x23 * x1))))) rfl rfl rfl rfl rfl rfl rfl rfl rfl rfl ?_
      refine TL_nil ?_
      refine TZ_done (by kernel_rfl) ?_
      refine T_region ?_
      refine TL_pure rfl rfl rfl rfl (op_addN rfl rfl (Nat.lt_of_lt_of_le hlt1 hlen32)) ?_
      refine TL_pure rfl rfl rfl rfl (op_move rfl) ?_
      refine TL_nil ?_
      refine TR_keepH [1, 4, 5, 6, 12, 13, 14, 31, 32, 33] [11, 12, 13] rfl rfl rfl rfl (by rw [hF]; rfl) ?_
      obtain rfl := someI hm
      have hn := CtlOK_next hc1
      exact hn _ rfl

theorem c_impl_copyInts (p0 : List Int) (out : List Int) (hm : m_impl_copyInts p0 = some out) : ACall Try.prog 101 [.sl 1 (List.map a_i64 p0)] [] (.ow 1000) [(1000, .arr ⟨false, true⟩ 1 2 (List.map a_i64 out))] := by
  refine ACall.intro Try.func101 rfl Try.ntmps101 rfl (fun F hF => ?_)
  unfold m_impl_copyInts at hm
  refine T_seq ?_
  refine T_region ?_
  refine TL_pure rfl rfl rfl rfl (op_assign rfl) ?_
  refine TL_nil ?_
  refine T_seq ?_
  refine T_region ?_
  refine TL_buildSlice 11 (es := List.map a_i64 ([] : List Int)) el24 z2 rfl rfl rfl rfl rfl rfl rfl rfl rfl ?_
  refine TL_pure rfl rfl rfl rfl (op_move rfl) ?_
  obtain ⟨q5, hq5, hm⟩ := bindS hm
  refine TL_appendT (f := a_i64) (a := ([] : List Int)) (b := p0) el24 z2 rfl rfl rfl rfl rfl rfl rfl (capI_spec hq5) rfl rfl rfl rfl rfl ?_
  refine TL_pure rfl rfl rfl rfl (op_assign rfl) ?_
  refine TL_nil ?_
  refine T_keepH [2] [11] rfl rfl rfl rfl (by rw [hF]; rfl) ?_
  refine T_deepen 11 (p' := false) (List.map a_i64 (([] : List Int) ++ p0)) (by rw [hF]; rfl) rfl (ElR.map (f := a_i64) (g := a_i64) (fun _ => ⟨⟨rfl, rfl⟩, trivial⟩) (([] : List Int) ++ p0)) rfl rfl rfl ?_
  refine T_ren [(11, 1000)] rfl rfl rfl (by rw [hF]; rfl) ?_
  refine T_ret ?_
  obtain rfl := someI hm
  refine ⟨[_], [1000], ⟨rfl, trivial⟩, ?_, rfl, rfl, rfl, rfl⟩
  rfl

theorem c_impl_Term_own (p0 : Term) (out : Term) (hm : m_impl_Term_own p0 = some out) : ACall Try.prog 89 [.agg [.int .i64 p0.Const, .sl 1 (List.map a_i64 p0.Coeffs)]] [] (.agg [.int .i64 out.Const, .ow 1000]) [(1000, .arr ⟨false, true⟩ 1 2 (List.map a_i64 out.Coeffs))] := by
  refine ACall.intro Try.func89 rfl Try.ntmps89 rfl (fun F hF => ?_)
  unfold m_impl_Term_own at hm
  refine T_seq ?_
  refine T_region ?_
  refine TL_box 11 rfl rfl rfl rfl rfl rfl rfl ?_
  refine TL_alloc 12 z26 rfl rfl rfl rfl rfl rfl rfl ?_
  refine TL_nil ?_
  refine T_seq ?_
  refine T_drawZ [6] mix (by kernel_rfl) rfl ?_
  obtain ⟨r7, hr7, hm⟩ := bindS hm
  refine TZ_pure 0 (by kernel_rfl) rfl rfl rfl rfl rfl (op_fieldAddr fa26_0 rfl rfl) ?_
  refine TZ_pure 1 (by kernel_rfl) rfl rfl rfl rfl rfl (op_load_one ag2 rfl rfl) ?_
  refine TZ_pure 2 (by kernel_rfl) rfl rfl rfl rfl rfl (op_fieldAddr fa26_1 rfl rfl) ?_
  refine TZ_pure 3 (by kernel_rfl) rfl rfl rfl rfl rfl (op_load_one ag24 rfl rfl) ?_
  refine TZ_one 4 (by kernel_rfl) rfl ?_
  refine TL_callO [(1000, 14)] (c_impl_copyInts p0.Coeffs r7 hr7) Try.call101 rfl rfl rfl rfl rfl rfl rfl rfl rfl rfl rfl rfl rfl ?_
  refine TL_nil ?_
  refine TZ_pure 5 (by kernel_rfl) rfl rfl rfl rfl rfl (op_buildP pl26 z26 rfl rfl rfl rfl rfl) ?_
  refine TZ_one 6 (by kernel_rfl) rfl ?_
  refine TL_store_box sz26 rfl rfl rfl rfl rfl rfl rfl rfl rfl ?_
  refine TL_nil ?_
  refine TZ_done (by kernel_rfl) ?_
  refine T_keepH [2] [12, 14] rfl rfl rfl rfl (by rw [hF]; rfl) ?_
  refine T_ren [(12, 12), (14, 1000)] rfl rfl rfl (by rw [hF]; rfl) ?_
  refine T_ret ?_
  obtain rfl := someI hm
  refine ⟨[_], [1000], ⟨⟨_, _, rfl, rfl, .inr ⟨ag26, _, _, sz26, rfl, rfl⟩⟩, trivial⟩, ?_, rfl, rfl, rfl, rfl⟩
  rfl

theorem c_impl_Term_checked (p0 : Term) (out : Term × Bool) (hm : m_impl_Term_checked p0 = some out) : ACall Try.prog 62 [.agg [.int .i64 p0.Const, .sl 1 (List.map a_i64 p0.Coeffs)]] [] (.tup [.agg [.int .i64 out.1.Const, .ow 1000], .bool out.2]) [(1000, .arr ⟨false, true⟩ 1 2 (List.map a_i64 out.1.Coeffs))] := by
  refine ACall.intro Try.func62 rfl Try.ntmps62 rfl (fun F hF => ?_)
  unfold m_impl_Term_checked at hm
  refine T_seq ?_
  refine T_region ?_
  refine TL_box 11 rfl rfl rfl rfl rfl rfl rfl ?_
  refine TL_alloc 12 z26 rfl rfl rfl rfl rfl rfl rfl ?_
  refine TL_pure rfl rfl rfl rfl (op_assign rfl) ?_
  refine TL_nil ?_
  refine T_seq ?_
  refine T_seq ?_
  refine T_region ?_
  refine TL_pure rfl rfl rfl rfl (op_load_agg ag26 sz26 rfl rfl rfl) ?_
  obtain ⟨r5, hr5, hm⟩ := bindS hm
  refine TL_callF (c_impl_ValidTerm p0 r5 hr5) Try.call60 rfl rfl rfl rfl rfl ?_
  refine TL_pure rfl rfl rfl rfl (op_not rfl) ?_
  refine TL_nil ?_
  refine T_cond rfl (fun hq => ?_) (fun hq => ?_)
  · replace hm := condT hq hm
    refine T_seq ?_
    refine T_region ?_
    refine TL_pure rfl rfl rfl rfl (op_buildP pl26 z26 rfl rfl rfl rfl rfl) ?_
    refine TL_store_box sz26 rfl rfl rfl rfl rfl rfl rfl rfl rfl ?_
    refine TL_pure rfl rfl rfl rfl (op_assign rfl) ?_
    refine TL_nil ?_
    refine T_ownNilBox 12 1 13 ⟨false, true⟩ 2 rfl rfl rfl (sz := 1) rfl rfl rfl rfl ?_
    refine T_keepH [2, 3] [12, 13] rfl rfl rfl rfl (by rw [hF]; rfl) ?_
    refine T_ren [(12, 12), (13, 1000)] rfl rfl rfl (by rw [hF]; rfl) ?_
    refine T_ret ?_
    obtain rfl := someI hm
    refine ⟨[_, _], [1000], ⟨⟨_, _, rfl, rfl, .inr ⟨ag26, _, _, sz26, rfl, rfl⟩⟩, rfl, trivial⟩, ?_, rfl, rfl, rfl, rfl⟩
    rfl
  · replace hm := condF hq hm
    refine T_skip ?_
    refine T_seq ?_
    refine T_region ?_
    refine TL_pure rfl rfl rfl rfl (op_load_agg ag26 sz26 rfl rfl rfl) ?_
    obtain ⟨r9, hr9, hm⟩ := bindS hm
    refine TL_callO [(1000, 14)] (c_impl_Term_own p0 r9 hr9) Try.call89 rfl rfl rfl rfl rfl rfl rfl rfl rfl rfl rfl rfl rfl ?_
    refine TL_store_box sz26 rfl rfl rfl rfl rfl rfl rfl rfl rfl ?_
    refine TL_pure rfl rfl rfl rfl (op_assign rfl) ?_
    refine TL_nil ?_
    refine T_keepH [2, 3] [12, 14] rfl rfl rfl rfl (by rw [hF]; rfl) ?_
    refine T_ren [(12, 12), (14, 1000)] rfl rfl rfl (by rw [hF]; rfl) ?_
    refine T_ret ?_
    obtain rfl := someI hm
    refine ⟨[_, _], [1000], ⟨⟨_, _, rfl, rfl, .inr ⟨ag26, _, _, sz26, rfl, rfl⟩⟩, rfl, trivial⟩, ?_, rfl, rfl, rfl, rfl⟩
    rfl

theorem c_impl_SubstituteTerm (p0 : Term) (p1 : List Term) (out : Term × Bool) (hm : m_impl_SubstituteTerm p0 p1 = some out) : ACall Try.prog 32 [.agg [.int .i64 p0.Const, .sl 1 (List.map a_i64 p0.Coeffs)], .sl 2 (List.map a_Term p1)] [] (.tup [.agg [.int .i64 out.1.Const, .ow 1000], .bool out.2]) [(1000, .arr ⟨false, true⟩ 1 2 (List.map a_i64 out.1.Coeffs))] := by
  refine ACall.intro Try.func32 rfl Try.ntmps32 rfl (fun F hF => ?_)
  unfold m_impl_SubstituteTerm at hm
  refine T_seq ?_
  refine T_region ?_
  refine TL_box 11 rfl rfl rfl rfl rfl rfl rfl ?_
  refine TL_alloc 12 z26 rfl rfl rfl rfl rfl rfl rfl ?_
  refine TL_pure rfl rfl rfl rfl (op_assign rfl) ?_
  refine TL_nil ?_
  refine T_seq ?_
  refine T_seq ?_
  refine T_region ?_
  refine TL_pure rfl rfl rfl rfl (op_load_agg ag26 sz26 rfl rfl rfl) ?_
  obtain ⟨r12, hr12, hm⟩ := bindS hm
  refine TL_callF (c_impl_ValidTerm p0 r12 hr12) Try.call60 rfl rfl rfl rfl rfl ?_
  refine TL_pure rfl rfl rfl rfl (op_not rfl) ?_
  refine TL_pure rfl rfl rfl rfl (op_move rfl) ?_
  refine TL_split 14 rfl rfl rfl (fun hq => ?_) (fun hq => ?_)
  · replace hm := condT hq hm
    refine TL_pass rfl rfl rfl rfl rfl rfl rfl ?_
    refine TL_pass rfl rfl rfl rfl rfl rfl rfl ?_
    refine TL_pass rfl rfl rfl rfl rfl rfl rfl ?_
    refine TL_pure rfl rfl rfl rfl (op_pick_true rfl rfl) ?_
    refine TL_nil ?_
    refine T_cond_true rfl ?_
    refine T_seq ?_
    refine T_region ?_
    refine TL_pure rfl rfl rfl rfl (op_buildP pl26 z26 rfl rfl rfl rfl rfl) ?_
    refine TL_store_box sz26 rfl rfl rfl rfl rfl rfl rfl rfl rfl ?_
    refine TL_pure rfl rfl rfl rfl (op_assign rfl) ?_
    refine TL_nil ?_
    refine T_ownNilBox 12 1 13 ⟨false, true⟩ 2 rfl rfl rfl (sz := 1) rfl rfl rfl rfl ?_
    refine T_keepH [4, 5] [12, 13] rfl rfl rfl rfl (by rw [hF]; rfl) ?_
    refine T_ren [(12, 12), (13, 1000)] rfl rfl rfl (by rw [hF]; rfl) ?_
    refine T_ret ?_
    obtain rfl := someI hm
    refine ⟨[_, _], [1000], ⟨⟨_, _, rfl, rfl, .inr ⟨ag26, _, _, sz26, rfl, rfl⟩⟩, rfl, trivial⟩, ?_, rfl, rfl, rfl, rfl⟩
    rfl
  · replace hm := condF hq hm
    refine TL_want rfl rfl ?_
    refine TL_pure rfl rfl rfl rfl (op_move rfl) ?_
    refine TL_want rfl rfl ?_
    obtain ⟨r16, hr16, hm⟩ := bindS hm
    refine TL_callF (c_impl_areTerms p1 (10 : Int) r16 hr16) Try.call73 rfl rfl rfl rfl rfl ?_
    refine TL_want rfl rfl ?_
    refine TL_pure rfl rfl rfl rfl (op_not rfl) ?_
    refine TL_pure rfl rfl rfl rfl (op_pick_false rfl rfl) ?_
    refine TL_nil ?_
    refine T_cond rfl (fun hq => ?_) (fun hq => ?_)
    · replace hm := condT hq hm
      refine T_seq ?_
      refine T_region ?_
      refine TL_pure rfl rfl rfl rfl (op_buildP pl26 z26 rfl rfl rfl rfl rfl) ?_
      refine TL_store_box sz26 rfl rfl rfl rfl rfl rfl rfl rfl rfl ?_
      refine TL_pure rfl rfl rfl rfl (op_assign rfl) ?_
      refine TL_nil ?_
      refine T_ownNilBox 12 1 14 ⟨false, true⟩ 2 rfl rfl rfl (sz := 1) rfl rfl rfl rfl ?_
      refine T_keepH [4, 5] [12, 14] rfl rfl rfl rfl (by rw [hF]; rfl) ?_
      refine T_ren [(12, 12), (14, 1000)] rfl rfl rfl (by rw [hF]; rfl) ?_
      refine T_ret ?_
      obtain rfl := someI hm
      refine ⟨[_, _], [1000], ⟨⟨_, _, rfl, rfl, .inr ⟨ag26, _, _, sz26, rfl, rfl⟩⟩, rfl, trivial⟩, ?_, rfl, rfl, rfl, rfl⟩
      rfl
    · replace hm := condF hq hm
      refine T_skip ?_
      refine T_seq ?_
      refine T_region ?_
      refine TL_pure rfl rfl rfl rfl (op_fieldAddr fa26_0 rfl rfl) ?_
      refine TL_pure rfl rfl rfl rfl (op_load_one ag2 rfl rfl) ?_
      refine TL_pure rfl rfl rfl rfl (op_buildP pl26 z26 rfl rfl rfl rfl rfl) ?_
      refine TL_nilAt 22 (x' := .agg [.int .i64 p0.Const, .sl 1 (List.map a_i64 ([] : List Int))]) rfl (⟨_, rfl, ⟨_, _, rfl, rfl, ⟨_, _, rfl, .inr ⟨_, rfl⟩, rfl⟩⟩⟩) rfl ?_
      refine TL_buildSlice 15 (es := List.map a_Term ([(Term.mk p0.Const ([] : List Int))])) el43 z26 rfl rfl rfl rfl rfl rfl rfl rfl rfl ?_
      refine TL_buildSlice 16 (es := List.map a_i64 [(1 : Int)]) el24 z2 rfl rfl rfl rfl rfl rfl rfl rfl rfl ?_
      refine TL_pure rfl rfl rfl rfl (op_assign rfl) ?_
      refine TL_pure rfl rfl rfl rfl (op_assign rfl) ?_
      refine TL_nil ?_
      refine T_seq ?_
      refine T_seq ?_
      refine T_region ?_
      refine TL_pure rfl rfl rfl rfl (op_fieldAddr fa26_1 rfl rfl) ?_
      refine TL_pure rfl rfl rfl rfl (op_load_one ag24 rfl rfl) ?_
      refine TL_pure rfl rfl rfl rfl (op_lenT Try.underlying24 rfl (List.length_map _)) ?_
      refine TL_fact (fun _ _ _ hr => RelP.slLen (i := 26) rfl hr) (fun hlen27 => ?_)
      rw [List.length_map] at hlen27
      refine TL_pure rfl rfl rfl rfl (op_move rfl) ?_
      refine TL_nil ?_
      refine T_block ?_
      refine T_keepH [1, 4, 6, 7, 26, 27, 28] [12, 15, 16] rfl rfl rfl rfl (by rw [hF]; rfl) ?_
      refine T_loop ?_
      obtain ⟨u0, hl0, hm⟩ := bindS hm
      refine TR_forL2 p0.Coeffs (m_impl_SubstituteTerm_L0 p1) (fun (s0 : (List Term) × (List Int)) => (s0.1, s0.2)) (fun n0 (s0 : (List Term) × (List Int)) => ⟨[(1, .sl 2 (List.map a_Term p1)), (4, .ptr 12 0 0), (6, .ow 15), (7, .ow 16), (26, .sl 1 (List.map a_i64 p0.Coeffs)), (27, .int .i64 (p0.Coeffs.length : Int)), (28, .int .i64 (n0 : Int))], [(12, .box [.int .i64 (0 : Int), .snil]), (15, .arr ⟨false, false⟩ 2 26 (List.map a_Term s0.1)), (16, .arr ⟨false, false⟩ 1 2 (List.map a_i64 s0.2))]⟩) (fun u0 => .exit 0) (fun u0 => ⟨[(4, .ptr 12 0 0), (6, .ow 15), (7, .ow 16)], [(12, .box [.int .i64 (0 : Int), .snil]), (15, .arr ⟨false, false⟩ 2 26 (List.map a_Term u0.1)), (16, .arr ⟨false, false⟩ 1 2 (List.map a_i64 u0.2))]⟩) (fun u0 => m_impl_SubstituteTerm_A0 u0 = some out) hl0 hm (fun u0 hm => ?_) (fun hx0 s0 hm => ?_) (fun hx0 n0 x0 s0 c0 hxn0 hlt0 hm hc0 => ?_)
      · unfold m_impl_SubstituteTerm_A0 at hm
        refine T_seq ?_
        refine T_region ?_
        refine TL_pure rfl rfl rfl rfl (op_move rfl) ?_
        refine TL_pure rfl rfl rfl rfl (op_move rfl) ?_
        refine TL_freeze 15 (by rw [hF]; rfl) rfl rfl rfl ?_
        refine TL_freeze 16 (by rw [hF]; rfl) rfl rfl rfl ?_
        obtain ⟨r60, hr60, hm⟩ := bindS hm
        refine TL_callT (c_impl_combined u0.1 u0.2 r60 hr60) Try.call65 rfl rfl rfl rfl rfl ?_
        obtain ⟨r61, hr61, hm⟩ := bindS hm
        refine TL_callO [(1000, 29)] (c_impl_Term_checked r60 r61 hr61) Try.call62 rfl rfl rfl rfl rfl rfl rfl rfl rfl rfl rfl rfl rfl ?_
        refine TL_pure rfl rfl rfl rfl (op_extract rfl rfl) ?_
        refine TL_pure rfl rfl rfl rfl (op_extract rfl rfl) ?_
        refine TL_store_box sz26 rfl rfl rfl rfl rfl rfl rfl rfl rfl ?_
        refine TL_pure rfl rfl rfl rfl (op_assign rfl) ?_
        refine TL_nil ?_
        refine T_keepH [4, 5] [12, 29] rfl rfl rfl rfl (by rw [hF]; rfl) ?_
        refine T_ren [(12, 12), (29, 1000)] rfl rfl rfl (by rw [hF]; rfl) ?_
        refine T_ret ?_
        obtain rfl := someI hm
        refine ⟨[_, _], [1000], ⟨⟨_, _, rfl, rfl, .inr ⟨ag26, _, _, sz26, rfl, rfl⟩⟩, rfl, trivial⟩, ?_, rfl, rfl, rfl, rfl⟩
        rfl
      · refine T_seq ?_
        refine T_region ?_
        refine TL_pure rfl rfl rfl rfl (op_lss rfl rfl) ?_
        refine TL_nil ?_
        refine T_seq ?_
        refine T_if_false rfl (decide_eq_false (by simp)) ?_
        refine T_keepH [4, 6, 7] [12, 15, 16] rfl rfl rfl rfl (by rw [hF]; rfl) ?_
        refine T_exit ?_
        exact hx0 (s0.1, s0.2) hm
      · unfold m_impl_SubstituteTerm_L0 at hm
        refine T_seq ?_
        refine T_region ?_
        refine TL_pure rfl rfl rfl rfl (op_lss rfl rfl) ?_
        refine TL_nil ?_
        refine T_seq ?_
        refine T_if_true rfl (decide_eq_true (Int.ofNat_lt.2 hlt0)) ?_
        refine T_skip ?_
        refine T_seq ?_
        refine T_block ?_
        refine T_seq ?_
        refine T_region ?_
        refine TL_pure rfl rfl rfl rfl (op_move rfl) ?_
        refine TL_pure rfl rfl rfl rfl (op_index_sl el24 rfl rfl rfl (get_map hxn0) rfl) ?_
        refine TL_pure rfl rfl rfl rfl (op_load_one ag2 rfl rfl) ?_
        refine TL_pure rfl rfl rfl rfl (op_assign rfl) ?_
        refine TL_pure rfl rfl rfl rfl (op_assign rfl) ?_
        refine TL_nil ?_
        refine T_seq ?_
        refine T_region ?_
        refine TL_pure rfl rfl rfl rfl (op_move rfl) ?_
        refine TL_pure rfl rfl rfl rfl (op_addN rfl rfl (Nat.lt_of_lt_of_le hlt0 hlen27)) ?_
        obtain ⟨k35, hk35, hm⟩ := bindS hm
        refine TL_make 25 (n := k35) el24 z2 rfl rfl rfl rfl rfl rfl (makeI_spec hk35).1 (makeI_spec hk35).1 (makeI_spec hk35).2 rfl rfl rfl rfl ?_
        refine TL_nils 25 (List.map a_i64 (List.replicate k35 (0 : Int))) (by rw [hF]; rfl) rfl (ElR.rep (z := .int .i64 (0 : Int)) (g := a_i64) (x := (0 : Int)) ⟨⟨rfl, rfl⟩, trivial⟩ k35) rfl ?_
        refine TL_pure rfl rfl rfl rfl (op_buildP pl26 z26 rfl rfl rfl rfl rfl) ?_
        refine TL_alloc 26 z26 rfl rfl rfl rfl rfl rfl rfl ?_
        refine TL_store_box sz26 rfl rfl rfl rfl rfl rfl rfl rfl rfl ?_
        refine TL_nil ?_
        refine T_seq ?_
        refine T_region ?_
        refine TL_pure rfl rfl rfl rfl (op_fieldAddr fa26_1 rfl rfl) ?_
        refine TL_pure rfl rfl rfl rfl (op_load_one ag24 rfl rfl) ?_
        refine TL_pure rfl rfl rfl rfl (op_move rfl) ?_
        obtain ⟨x40, hx40, hm⟩ := bindS hm
        refine TL_pure rfl rfl rfl rfl (op_indexO el24 rfl rfl rfl hx40) ?_
        refine TL_storeT sz2 rfl rfl ((getI_spec hx40).2) (v' := (1 : Int)) rfl rfl rfl rfl rfl rfl rfl rfl rfl rfl ?_
        refine TL_nil ?_
        refine T_join (fun (j0 : Int × (List Int)) => ⟨[(1, .sl 2 (List.map a_Term p1)), (4, .ptr 12 0 0), (6, .ow 15), (7, .ow 16), (9, .int .i64 x0), (10, .ptr 26 0 0), (26, .sl 1 (List.map a_i64 p0.Coeffs)), (27, .int .i64 (p0.Coeffs.length : Int)), (28, .int .i64 (n0 : Int))], [(12, .box [.int .i64 (0 : Int), .snil]), (15, .arr ⟨false, false⟩ 2 26 (List.map a_Term s0.1)), (16, .arr ⟨false, false⟩ 1 2 (List.map a_i64 s0.2)), (26, .box [.int .i64 j0.1, .sl 1 (List.map a_i64 j0.2)])]⟩) (fun j0 => m_impl_SubstituteTerm_J0 s0 x0 j0 = some c0) (fun j0 hm => ?_) (fun hj0 => ?_)
        · unfold m_impl_SubstituteTerm_J0 at hm
          refine T_region ?_
          refine TL_pure rfl rfl rfl rfl (op_move rfl) ?_
          refine TL_pure rfl rfl rfl rfl (op_load_agg ag26 sz26 rfl rfl rfl) ?_
          refine TL_buildSlice 27 (es := List.map a_Term [(Term.mk j0.1 j0.2)]) el43 z26 rfl rfl rfl rfl rfl rfl rfl rfl rfl ?_
          obtain ⟨q52, hq52, hm⟩ := bindS hm
          refine TL_appendT (f := a_Term) (a := s0.1) (b := [(Term.mk j0.1 j0.2)]) el43 z26 rfl rfl rfl rfl rfl rfl rfl (capI_spec hq52) rfl rfl rfl rfl rfl ?_
          refine TL_pure rfl rfl rfl rfl (op_move rfl) ?_
          refine TL_pure rfl rfl rfl rfl (op_move rfl) ?_
          refine TL_buildSlice 28 (es := List.map a_i64 [x0]) el24 z2 rfl rfl rfl rfl rfl rfl rfl rfl rfl ?_
          obtain ⟨q56, hq56, hm⟩ := bindS hm
          refine TL_appendT (f := a_i64) (a := s0.2) (b := [x0]) el24 z2 rfl rfl rfl rfl rfl rfl rfl (capI_spec hq56) rfl rfl rfl rfl rfl ?_
          refine TL_pure rfl rfl rfl rfl (op_assign rfl) ?_
          refine TL_pure rfl rfl rfl rfl (op_assign rfl) ?_
          refine TL_nil ?_
          refine T_region ?_
          refine TL_pure rfl rfl rfl rfl (op_addN rfl rfl (Nat.lt_of_lt_of_le hlt0 hlen27)) ?_
          refine TL_pure rfl rfl rfl rfl (op_move rfl) ?_
          refine TL_nil ?_
          refine TR_keepH [1, 4, 6, 7, 26, 27, 28] [12, 15, 16] rfl rfl rfl rfl (by rw [hF]; rfl) ?_
          obtain rfl := someI hm
          have hn := CtlOK_next hc0
          exact hn _ rfl
        · refine T_seq ?_
          refine T_region ?_
          refine TL_pure rfl rfl rfl rfl (op_move rfl) ?_
          refine TL_pure rfl rfl rfl rfl (op_move rfl) ?_
          refine TL_pure rfl rfl rfl rfl (op_lenT Try.underlying43 rfl (List.length_map _)) ?_
          refine TL_fact (fun _ _ _ hr => RelP.slLen (i := 42) rfl hr) (fun hlen43 => ?_)
          rw [List.length_map] at hlen43
          refine TL_pure rfl rfl rfl rfl (op_lss rfl rfl) ?_
          refine TL_nil ?_
          refine T_cond rfl (fun hq => ?_) (fun hq => ?_)
          · replace hm := condT hq hm
            refine T_region ?_
            refine TL_pure rfl rfl rfl rfl (op_move rfl) ?_
            refine TL_pure rfl rfl rfl rfl (op_move rfl) ?_
            obtain ⟨x47, hx47, hm⟩ := bindS hm
            refine TL_pure rfl rfl rfl rfl (op_indexT el43 rfl rfl hx47 rfl) ?_
            refine TL_pure rfl rfl rfl rfl (op_load_agg ag26 sz26 rfl rfl rfl) ?_
            refine TL_store_box sz26 rfl rfl rfl rfl rfl rfl rfl rfl rfl ?_
            refine TL_nil ?_
            refine T_keepH [1, 4, 6, 7, 9, 10, 26, 27, 28] [12, 15, 16, 26] rfl rfl rfl rfl (by rw [hF]; rfl) ?_
            exact hj0 (x47.Const, x47.Coeffs) hm
          · replace hm := condF hq hm
            refine T_skip ?_
            refine T_keepH [1, 4, 6, 7, 9, 10, 26, 27, 28] [12, 15, 16, 25, 26] rfl rfl rfl rfl (by rw [hF]; rfl) ?_
            refine T_freeze 25 (by rw [hF]; rfl) rfl rfl rfl ?_
            exact hj0 ((0 : Int), ((List.replicate k35 (0 : Int)).set (((n0 : Int)).toNat) (1 : Int))) hm

theorem c_laws_eqInt64S (p0 : List Int) (p1 : List Int) (out : Bool) (hm : m_laws_eqInt64S p0 p1 = some out) : ACall Try.prog 45 [.sl 1 (List.map a_i64 p0), .sl 1 (List.map a_i64 p1)] [] (.bool out) [] := by
  refine ACall.intro Try.func45 rfl Try.ntmps45 rfl (fun F hF => ?_)
  unfold m_laws_eqInt64S at hm
  refine T_seq ?_
  refine T_region ?_
  refine TL_pure rfl rfl rfl rfl (op_assign rfl) ?_
  refine TL_nil ?_
  refine T_seq ?_
  refine T_seq ?_
  refine T_region ?_
  refine TL_pure rfl rfl rfl rfl (op_move rfl) ?_
  refine TL_pure rfl rfl rfl rfl (op_lenT Try.underlying24 rfl (List.length_map _)) ?_
  refine TL_fact (fun _ _ _ hr => RelP.slLen (i := 6) rfl hr) (fun hlen7 => ?_)
  rw [List.length_map] at hlen7
  refine TL_pure rfl rfl rfl rfl (op_move rfl) ?_
  refine TL_pure rfl rfl rfl rfl (op_lenT Try.underlying24 rfl (List.length_map _)) ?_
  refine TL_fact (fun _ _ _ hr => RelP.slLen (i := 8) rfl hr) (fun hlen9 => ?_)
  rw [List.length_map] at hlen9
  refine TL_pure rfl rfl rfl rfl (op_neq rfl rfl) ?_
  refine TL_nil ?_
  refine T_cond rfl (fun hq => ?_) (fun hq => ?_)
  · replace hm := condT hq hm
    refine T_seq ?_
    refine T_region ?_
    refine TL_pure rfl rfl rfl rfl (op_assign rfl) ?_
    refine TL_nil ?_
    refine T_keepH [4] [] rfl rfl rfl rfl (by rw [hF]; rfl) ?_
    refine T_ret ?_
    obtain rfl := someI hm
    refine ⟨[_], [], ⟨rfl, trivial⟩, ?_, rfl, rfl, rfl, rfl⟩
    rfl
  · replace hm := condF hq hm
    refine T_skip ?_
    refine T_seq ?_
    refine T_seq ?_
    refine T_region ?_
    refine TL_pure rfl rfl rfl rfl (op_assign rfl) ?_
    refine TL_nil ?_
    refine T_block ?_
    refine T_keepH [0, 1, 5] [] rfl rfl rfl rfl (by rw [hF]; rfl) ?_
    refine T_loop ?_
    obtain ⟨u0, hl0, hm⟩ := bindS hm
    refine TR_iter2 (m_laws_eqInt64S_L0 p0 p1) (fun (s0 : Int) => ⟨[(0, .sl 1 (List.map a_i64 p0)), (1, .sl 1 (List.map a_i64 p1)), (5, .int .i64 s0)], []⟩) (fun u0 => match u0 with | .inl u0 => .exit 0 | .inr u0 => .ret) (fun u0 => match u0 with | .inl u0 => ⟨[], []⟩ | .inr u0 => ⟨[(4, .bool u0)], []⟩) (fun u0 => m_laws_eqInt64S_A0 u0 = some out) hl0 hm (fun u0 hm => ?_) (fun hx0 s0 c0 hm hc0 => ?_)
    · rcases u0 with u0 | u0
      · unfold m_laws_eqInt64S_A0 at hm
        refine T_seq ?_
        refine T_region ?_
        refine TL_pure rfl rfl rfl rfl (op_assign rfl) ?_
        refine TL_nil ?_
        refine T_keepH [4] [] rfl rfl rfl rfl (by rw [hF]; rfl) ?_
        refine T_ret ?_
        obtain rfl := someI hm
        refine ⟨[_], [], ⟨rfl, trivial⟩, ?_, rfl, rfl, rfl, rfl⟩
        rfl
      · unfold m_laws_eqInt64S_A0 at hm
        obtain rfl := someI hm
        refine ⟨[_], [], ⟨rfl, trivial⟩, ?_, rfl, rfl, rfl, rfl⟩
        rfl
    · unfold m_laws_eqInt64S_L0 at hm
      refine T_seq ?_
      refine T_seq ?_
      refine T_region ?_
      refine TL_pure rfl rfl rfl rfl (op_move rfl) ?_
      refine TL_pure rfl rfl rfl rfl (op_move rfl) ?_
      refine TL_pure rfl rfl rfl rfl (op_lenT Try.underlying24 rfl (List.length_map _)) ?_
      refine TL_pure rfl rfl rfl rfl (op_lss rfl rfl) ?_
      refine TL_nil ?_
      refine T_cond rfl (fun hq => ?_) (fun hq => ?_)
      · replace hm := condT hq hm
        refine T_skip ?_
        refine T_seq ?_
        refine T_block ?_
        refine T_seq ?_
        refine T_drawZ [] mix (by kernel_rfl) rfl ?_
        obtain ⟨x19, hx19, hm⟩ := bindS hm
        obtain ⟨x23, hx23, hm⟩ := bindS hm
        refine TZ_pure 0 (by kernel_rfl) rfl rfl rfl rfl rfl (op_move rfl) ?_
        refine TZ_pure 1 (by kernel_rfl) rfl rfl rfl rfl rfl (op_move rfl) ?_
        refine TZ_pure 2 (by kernel_rfl) rfl rfl rfl rfl rfl (op_indexT el24 rfl rfl hx19 rfl) ?_
        refine TZ_pure 3 (by kernel_rfl) rfl rfl rfl rfl rfl (op_load_one ag2 rfl rfl) ?_
        refine TZ_pure 4 (by kernel_rfl) rfl rfl rfl rfl rfl (op_move rfl) ?_
        refine TZ_pure 5 (by kernel_rfl) rfl rfl rfl rfl rfl (op_move rfl) ?_
        refine TZ_pure 6 (by kernel_rfl) rfl rfl rfl rfl rfl (op_indexT el24 rfl rfl hx23 rfl) ?_
        refine TZ_pure 7 (by kernel_rfl) rfl rfl rfl rfl rfl (op_load_one ag2 rfl rfl) ?_
        refine TZ_pure 8 (by kernel_rfl) rfl rfl rfl rfl rfl (op_neq rfl rfl) ?_
        refine TZ_done (by kernel_rfl) ?_
        refine T_cond rfl (fun hq => ?_) (fun hq => ?_)
        · replace hm := condT hq hm
          refine T_seq ?_
          refine T_region ?_
          refine TL_pure rfl rfl rfl rfl (op_assign rfl) ?_
          refine TL_nil ?_
          refine T_keepH [4] [] rfl rfl rfl rfl (by rw [hF]; rfl) ?_
          refine T_ret ?_
          obtain rfl := someI hm
          have hn := CtlOK_out hc0
          exact hx0 (.inr false) hn
        · replace hm := condF hq hm
          refine T_skip ?_
          refine T_region ?_
          refine TL_pure rfl rfl rfl rfl (op_move rfl) ?_
          refine TL_pure rfl rfl rfl rfl (op_addW rfl rfl) ?_
          refine TL_pure rfl rfl rfl rfl (op_assign rfl) ?_
          refine TL_nil ?_
          refine TR_keepH [0, 1, 5] [] rfl rfl rfl rfl (by rw [hF]; rfl) ?_
          obtain rfl := someI hm
          have hn := CtlOK_next hc0
          exact hn _ rfl
      · replace hm := condF hq hm
        refine T_keepH [] [] rfl rfl rfl rfl (by rw [hF]; rfl) ?_
        refine T_exit ?_
        obtain rfl := someI hm
        have hn := CtlOK_out hc0
        exact hx0 (.inl ()) hn

theorem c_laws_eqTerm (p0 : Term) (p1 : Term) (out : Bool) (hm : m_laws_eqTerm p0 p1 = some out) : ACall Try.prog 28 [.agg [.int .i64 p0.Const, .sl 1 (List.map a_i64 p0.Coeffs)], .agg [.int .i64 p1.Const, .sl 1 (List.map a_i64 p1.Coeffs)]] [] (.bool out) [] := by
  refine ACall.intro Try.func28 rfl Try.ntmps28 rfl (fun F hF => ?_)
  unfold m_laws_eqTerm at hm
  refine T_seq ?_
  refine T_region ?_
  refine TL_box 11 rfl rfl rfl rfl rfl rfl rfl ?_
  refine TL_box 12 rfl rfl rfl rfl rfl rfl rfl ?_
  refine TL_pure rfl rfl rfl rfl (op_assign rfl) ?_
  refine TL_nil ?_
  refine T_seq ?_
  refine T_seq ?_
  refine T_region ?_
  refine TL_pure rfl rfl rfl rfl (op_fieldAddr fa26_0 rfl rfl) ?_
  refine TL_pure rfl rfl rfl rfl (op_load_one ag2 rfl rfl) ?_
  refine TL_pure rfl rfl rfl rfl (op_fieldAddr fa26_0 rfl rfl) ?_
  refine TL_pure rfl rfl rfl rfl (op_load_one ag2 rfl rfl) ?_
  refine TL_pure rfl rfl rfl rfl (op_neq rfl rfl) ?_
  refine TL_nil ?_
  refine T_cond rfl (fun hq => ?_) (fun hq => ?_)
  · replace hm := condT hq hm
    refine T_seq ?_
    refine T_region ?_
    refine TL_pure rfl rfl rfl rfl (op_assign rfl) ?_
    refine TL_nil ?_
    refine T_keepH [4] [] rfl rfl rfl rfl (by rw [hF]; rfl) ?_
    refine T_ret ?_
    obtain rfl := someI hm
    refine ⟨[_], [], ⟨rfl, trivial⟩, ?_, rfl, rfl, rfl, rfl⟩
    rfl
  · replace hm := condF hq hm
    refine T_skip ?_
    refine T_seq ?_
    refine T_seq ?_
    refine T_region ?_
    refine TL_pure rfl rfl rfl rfl (op_fieldAddr fa26_1 rfl rfl) ?_
    refine TL_pure rfl rfl rfl rfl (op_load_one ag24 rfl rfl) ?_
    refine TL_pure rfl rfl rfl rfl (op_fieldAddr fa26_1 rfl rfl) ?_
    refine TL_pure rfl rfl rfl rfl (op_load_one ag24 rfl rfl) ?_
    obtain ⟨r14, hr14, hm⟩ := bindS hm
    refine TL_callF (c_laws_eqInt64S p0.Coeffs p1.Coeffs r14 hr14) Try.call45 rfl rfl rfl rfl rfl ?_
    refine TL_pure rfl rfl rfl rfl (op_not rfl) ?_
    refine TL_nil ?_
    refine T_cond rfl (fun hq => ?_) (fun hq => ?_)
    · replace hm := condT hq hm
      refine T_seq ?_
      refine T_region ?_
      refine TL_pure rfl rfl rfl rfl (op_assign rfl) ?_
      refine TL_nil ?_
      refine T_keepH [4] [] rfl rfl rfl rfl (by rw [hF]; rfl) ?_
      refine T_ret ?_
      obtain rfl := someI hm
      refine ⟨[_], [], ⟨rfl, trivial⟩, ?_, rfl, rfl, rfl, rfl⟩
      rfl
    · replace hm := condF hq hm
      refine T_skip ?_
      refine T_seq ?_
      refine T_region ?_
      refine TL_pure rfl rfl rfl rfl (op_assign rfl) ?_
      refine TL_nil ?_
      refine T_keepH [4] [] rfl rfl rfl rfl (by rw [hF]; rfl) ?_
      refine T_ret ?_
      obtain rfl := someI hm
      refine ⟨[_], [], ⟨rfl, trivial⟩, ?_, rfl, rfl, rfl, rfl⟩
      rfl

theorem c_laws_eqTermS (p0 : List Term) (p1 : List Term) (out : Bool) (hm : m_laws_eqTermS p0 p1 = some out) : ACall Try.prog 44 [.sl 2 (List.map a_Term p0), .sl 2 (List.map a_Term p1)] [] (.bool out) [] := by
  refine ACall.intro Try.func44 rfl Try.ntmps44 rfl (fun F hF => ?_)
  unfold m_laws_eqTermS at hm
  refine T_seq ?_
  refine T_region ?_
  refine TL_pure rfl rfl rfl rfl (op_assign rfl) ?_
  refine TL_nil ?_
  refine T_seq ?_
  refine T_seq ?_
  refine T_region ?_
  refine TL_pure rfl rfl rfl rfl (op_move rfl) ?_
  refine TL_pure rfl rfl rfl rfl (op_lenT Try.underlying43 rfl (List.length_map _)) ?_
  refine TL_fact (fun _ _ _ hr => RelP.slLen (i := 6) rfl hr) (fun hlen7 => ?_)
  rw [List.length_map] at hlen7
  refine TL_pure rfl rfl rfl rfl (op_move rfl) ?_
  refine TL_pure rfl rfl rfl rfl (op_lenT Try.underlying43 rfl (List.length_map _)) ?_
  refine TL_fact (fun _ _ _ hr => RelP.slLen (i := 8) rfl hr) (fun hlen9 => ?_)
  rw [List.length_map] at hlen9
  refine TL_pure rfl rfl rfl rfl (op_neq rfl rfl) ?_
  refine TL_nil ?_
  refine T_cond rfl (fun hq => ?_) (fun hq => ?_)
  · replace hm := condT hq hm
    refine T_seq ?_
    refine T_region ?_
    refine TL_pure rfl rfl rfl rfl (op_assign rfl) ?_
    refine TL_nil ?_
    refine T_keepH [4] [] rfl rfl rfl rfl (by rw [hF]; rfl) ?_
    refine T_ret ?_
    obtain rfl := someI hm
    refine ⟨[_], [], ⟨rfl, trivial⟩, ?_, rfl, rfl, rfl, rfl⟩
    rfl
  · replace hm := condF hq hm
    refine T_skip ?_
    refine T_seq ?_
    refine T_seq ?_
    refine T_region ?_
    refine TL_pure rfl rfl rfl rfl (op_assign rfl) ?_
    refine TL_nil ?_
    refine T_block ?_
    refine T_keepH [0, 1, 5] [] rfl rfl rfl rfl (by rw [hF]; rfl) ?_
    refine T_loop ?_
    obtain ⟨u0, hl0, hm⟩ := bindS hm
    refine TR_iter2 (m_laws_eqTermS_L0 p0 p1) (fun (s0 : Int) => ⟨[(0, .sl 2 (List.map a_Term p0)), (1, .sl 2 (List.map a_Term p1)), (5, .int .i64 s0)], []⟩) (fun u0 => match u0 with | .inl u0 => .exit 0 | .inr u0 => .ret) (fun u0 => match u0 with | .inl u0 => ⟨[], []⟩ | .inr u0 => ⟨[(4, .bool u0)], []⟩) (fun u0 => m_laws_eqTermS_A0 u0 = some out) hl0 hm (fun u0 hm => ?_) (fun hx0 s0 c0 hm hc0 => ?_)
    · rcases u0 with u0 | u0
      · unfold m_laws_eqTermS_A0 at hm
        refine T_seq ?_
        refine T_region ?_
        refine TL_pure rfl rfl rfl rfl (op_assign rfl) ?_
        refine TL_nil ?_
        refine T_keepH [4] [] rfl rfl rfl rfl (by rw [hF]; rfl) ?_
        refine T_ret ?_
        obtain rfl := someI hm
        refine ⟨[_], [], ⟨rfl, trivial⟩, ?_, rfl, rfl, rfl, rfl⟩
        rfl
      · unfold m_laws_eqTermS_A0 at hm
        obtain rfl := someI hm
        refine ⟨[_], [], ⟨rfl, trivial⟩, ?_, rfl, rfl, rfl, rfl⟩
        rfl
    · unfold m_laws_eqTermS_L0 at hm
      refine T_seq ?_
      refine T_seq ?_
      refine T_region ?_
      refine TL_pure rfl rfl rfl rfl (op_move rfl) ?_
      refine TL_pure rfl rfl rfl rfl (op_move rfl) ?_
      refine TL_pure rfl rfl rfl rfl (op_lenT Try.underlying43 rfl (List.length_map _)) ?_
      refine TL_pure rfl rfl rfl rfl (op_lss rfl rfl) ?_
      refine TL_nil ?_
      refine T_cond rfl (fun hq => ?_) (fun hq => ?_)
      · replace hm := condT hq hm
        refine T_skip ?_
        refine T_seq ?_
        refine T_block ?_
        refine T_seq ?_
        refine T_drawZ [] mix (by kernel_rfl) rfl ?_
        obtain ⟨x19, hx19, hm⟩ := bindS hm
        obtain ⟨x23, hx23, hm⟩ := bindS hm
        obtain ⟨r25, hr25, hm⟩ := bindS hm
        refine TZ_pure 0 (by kernel_rfl) rfl rfl rfl rfl rfl (op_move rfl) ?_
        refine TZ_pure 1 (by kernel_rfl) rfl rfl rfl rfl rfl (op_move rfl) ?_
        refine TZ_pure 2 (by kernel_rfl) rfl rfl rfl rfl rfl (op_indexT el43 rfl rfl hx19 rfl) ?_
        refine TZ_pure 3 (by kernel_rfl) rfl rfl rfl rfl rfl (op_load_agg ag26 sz26 rfl rfl rfl) ?_
        refine TZ_pure 4 (by kernel_rfl) rfl rfl rfl rfl rfl (op_move rfl) ?_
        refine TZ_pure 5 (by kernel_rfl) rfl rfl rfl rfl rfl (op_move rfl) ?_
        refine TZ_pure 6 (by kernel_rfl) rfl rfl rfl rfl rfl (op_indexT el43 rfl rfl hx23 rfl) ?_
        refine TZ_pure 7 (by kernel_rfl) rfl rfl rfl rfl rfl (op_load_agg ag26 sz26 rfl rfl rfl) ?_
        refine TZ_one 8 (by kernel_rfl) rfl ?_
        refine TL_callF (c_laws_eqTerm x19 x23 r25 hr25) Try.call28 rfl rfl rfl rfl rfl ?_
        refine TL_nil ?_
        refine TZ_pure 9 (by kernel_rfl) rfl rfl rfl rfl rfl (op_not rfl) ?_
        refine TZ_done (by kernel_rfl) ?_
        refine T_cond rfl (fun hq => ?_) (fun hq => ?_)
        · replace hm := condT hq hm
          refine T_seq ?_
          refine T_region ?_
          refine TL_pure rfl rfl rfl rfl (op_assign rfl) ?_
          refine TL_nil ?_
          refine T_keepH [4] [] rfl rfl rfl rfl (by rw [hF]; rfl) ?_
          refine T_ret ?_
          obtain rfl := someI hm
          have hn := CtlOK_out hc0
          exact hx0 (.inr false) hn
        · replace hm := condF hq hm
          refine T_skip ?_
          refine T_region ?_
          refine TL_pure rfl rfl rfl rfl (op_move rfl) ?_
          refine TL_pure rfl rfl rfl rfl (op_addW rfl rfl) ?_
          refine TL_pure rfl rfl rfl rfl (op_assign rfl) ?_
          refine TL_nil ?_
          refine TR_keepH [0, 1, 5] [] rfl rfl rfl rfl (by rw [hF]; rfl) ?_
          obtain rfl := someI hm
          have hn := CtlOK_next hc0
          exact hn _ rfl
      · replace hm := condF hq hm
        refine T_keepH [] [] rfl rfl rfl rfl (by rw [hF]; rfl) ?_
        refine T_exit ?_
        obtain rfl := someI hm
        have hn := CtlOK_out hc0
        exact hx0 (.inl ()) hn

theorem c_laws_markInt64S (p0 : List Int) (p1 : Int) (out : Int × (List Int)) (hm : m_laws_markInt64S p0 p1 = some out) (E0 : TypeId) : ACall Try.prog 48 [.ow 0, .int .i64 p1] [(0, .arr ⟨true, true⟩ 1 E0 (List.map a_i64 p0))] (.int .i64 out.1) [(0, .arr ⟨true, true⟩ 1 E0 (List.map a_i64 out.2))] := by
  refine ACall.intro Try.func48 rfl Try.ntmps48 rfl (fun F hF => ?_)
  unfold m_laws_markInt64S at hm
  refine T_seq ?_
  refine T_region ?_
  refine TL_pure rfl rfl rfl rfl (op_assign rfl) ?_
  refine TL_nil ?_
  refine T_seq ?_
  refine T_seq ?_
  refine T_region ?_
  refine TL_pure rfl rfl rfl rfl (op_assign rfl) ?_
  refine TL_nil ?_
  refine T_block ?_
  refine T_keepH [0, 1, 5] [0] rfl rfl rfl rfl (by rw [hF]; rfl) ?_
  refine T_loop ?_
  obtain ⟨u0, hl0, hm⟩ := bindS hm
  refine TR_iter2 (m_laws_markInt64S_L0) (fun (s0 : (List Int) × Int × Int) => ⟨[(0, .ow 0), (1, .int .i64 s0.2.1), (5, .int .i64 s0.2.2)], [(0, .arr ⟨true, true⟩ 1 E0 (List.map a_i64 s0.1))]⟩) (fun u0 => .exit 0) (fun u0 => ⟨[(1, .int .i64 u0.1)], [(0, .arr ⟨true, true⟩ 1 E0 (List.map a_i64 u0.2))]⟩) (fun u0 => m_laws_markInt64S_A0 u0 = some out) hl0 hm (fun u0 hm => ?_) (fun hx0 s0 c0 hm hc0 => ?_)
  · unfold m_laws_markInt64S_A0 at hm
    refine T_seq ?_
    refine T_region ?_
    refine TL_pure rfl rfl rfl rfl (op_move rfl) ?_
    refine TL_pure rfl rfl rfl rfl (op_assign rfl) ?_
    refine TL_nil ?_
    refine T_keepH [4] [0] rfl rfl rfl rfl (by rw [hF]; rfl) ?_
    refine T_ret ?_
    obtain rfl := someI hm
    refine ⟨[_], [0], ⟨rfl, trivial⟩, ?_, rfl, rfl, rfl, rfl⟩
    rfl
  · unfold m_laws_markInt64S_L0 at hm
    refine T_seq ?_
    refine T_seq ?_
    refine T_region ?_
    refine TL_pure rfl rfl rfl rfl (op_move rfl) ?_
    refine TL_pure rfl rfl rfl rfl (op_move rfl) ?_
    refine TL_pure rfl rfl rfl rfl (op_lenO Try.underlying24 rfl rfl (List.length_map _)) ?_
    refine TL_fact (fun _ _ _ hr => RelP.owLen (id := 0) rfl hr) (fun hlen8 => ?_)
    rw [List.length_map] at hlen8
    refine TL_pure rfl rfl rfl rfl (op_lss rfl rfl) ?_
    refine TL_nil ?_
    refine T_cond rfl (fun hq => ?_) (fun hq => ?_)
    · replace hm := condT hq hm
      refine T_skip ?_
      refine T_seq ?_
      refine T_block ?_
      refine T_seq ?_
      refine T_region ?_
      refine TL_pure rfl rfl rfl rfl (op_move rfl) ?_
      refine TL_pure rfl rfl rfl rfl (op_move rfl) ?_
      refine TL_pure rfl rfl rfl rfl (op_move rfl) ?_
      obtain ⟨x15, hx15, hm⟩ := bindS hm
      refine TL_pure rfl rfl rfl rfl (op_indexO el24 rfl rfl rfl hx15) ?_
      refine TL_storeFT sz2 rfl rfl ((getI_spec hx15).2) (v' := s0.2.1) rfl rfl rfl rfl rfl rfl rfl rfl rfl ?_
      refine TL_nil ?_
      refine T_region ?_
      refine TL_pure rfl rfl rfl rfl (op_move rfl) ?_
      refine TL_pure rfl rfl rfl rfl (op_addW rfl rfl) ?_
      refine TL_pure rfl rfl rfl rfl (op_assign rfl) ?_
      refine TL_nil ?_
      refine T_region ?_
      refine TL_pure rfl rfl rfl rfl (op_move rfl) ?_
      refine TL_pure rfl rfl rfl rfl (op_addW rfl rfl) ?_
      refine TL_pure rfl rfl rfl rfl (op_assign rfl) ?_
      refine TL_nil ?_
      refine TR_keepH [0, 1, 5] [0] rfl rfl rfl rfl (by rw [hF]; rfl) ?_
      obtain rfl := someI hm
      have hn := CtlOK_next hc0
      exact hn _ rfl
    · replace hm := condF hq hm
      refine T_keepH [1] [0] rfl rfl rfl rfl (by rw [hF]; rfl) ?_
      refine T_exit ?_
      obtain rfl := someI hm
      have hn := CtlOK_out hc0
      exact hx0 (s0.2.1, s0.1) hn

theorem c_laws_markTerm (p0 : Term) (p1 : Int) (out : Int × (List Int)) (hm : m_laws_markTerm p0 p1 = some out) (E0 : TypeId) : ACall Try.prog 29 [.agg [.int .i64 p0.Const, .ow 0], .int .i64 p1] [(0, .arr ⟨true, true⟩ 1 E0 (List.map a_i64 p0.Coeffs))] (.int .i64 out.1) [(0, .arr ⟨true, true⟩ 1 E0 (List.map a_i64 out.2))] := by
  refine ACall.intro Try.func29 rfl Try.ntmps29 rfl (fun F hF => ?_)
  unfold m_laws_markTerm at hm
  refine T_seq ?_
  refine T_region ?_
  refine TL_box 11 rfl rfl rfl rfl rfl rfl rfl ?_
  refine TL_pure rfl rfl rfl rfl (op_assign rfl) ?_
  refine TL_nil ?_
  refine T_seq ?_
  refine T_region ?_
  refine TL_pure rfl rfl rfl rfl (op_fieldAddr fa26_1 rfl rfl) ?_
  refine TL_pure rfl rfl rfl rfl (op_load_one ag24 rfl rfl) ?_
  refine TL_pure rfl rfl rfl rfl (op_move rfl) ?_
  obtain ⟨r8, hr8, hm⟩ := bindS hm
  refine TL_call [(0, 0)] [] [] (c_laws_markInt64S p0.Coeffs p1 r8 hr8 _) Try.call48 rfl rfl rfl rfl rfl ⟨rfl, trivial⟩ rfl rfl rfl rfl rfl rfl rfl rfl rfl rfl rfl ?_
  refine TL_pure rfl rfl rfl rfl (op_assign rfl) ?_
  refine TL_nil ?_
  refine T_seq ?_
  refine T_region ?_
  refine TL_pure rfl rfl rfl rfl (op_move rfl) ?_
  refine TL_pure rfl rfl rfl rfl (op_assign rfl) ?_
  refine TL_nil ?_
  refine T_keepH [4] [0] rfl rfl rfl rfl (by rw [hF]; rfl) ?_
  refine T_ret ?_
  obtain rfl := someI hm
  refine ⟨[_], [0], ⟨rfl, trivial⟩, ?_, rfl, rfl, rfl, rfl⟩
  rfl

theorem c_laws_markTermS (p0 : List Term) (p1 : Int) (out : Int × (List Term)) (hm : m_laws_markTermS p0 p1 = some out) (E0 : TypeId) : ACall Try.prog 47 [.ow 0, .int .i64 p1] [(0, .arr ⟨true, true⟩ 2 E0 (List.map a_Term p0))] (.int .i64 out.1) [(0, .arr ⟨true, true⟩ 2 E0 (List.map a_Term out.2))] := by
  refine ACall.intro Try.func47 rfl Try.ntmps47 rfl (fun F hF => ?_)
  unfold m_laws_markTermS at hm
  refine T_seq ?_
  refine T_region ?_
  refine TL_pure rfl rfl rfl rfl (op_assign rfl) ?_
  refine TL_nil ?_
  refine T_seq ?_
  refine T_seq ?_
  refine T_region ?_
  refine TL_pure rfl rfl rfl rfl (op_assign rfl) ?_
  refine TL_nil ?_
  refine T_block ?_
  refine T_keepH [0, 1, 5] [0] rfl rfl rfl rfl (by rw [hF]; rfl) ?_
  refine T_loop ?_
  obtain ⟨u0, hl0, hm⟩ := bindS hm
  refine TR_iter2 (m_laws_markTermS_L0) (fun (s0 : (List Term) × Int × Int) => ⟨[(0, .ow 0), (1, .int .i64 s0.2.1), (5, .int .i64 s0.2.2)], [(0, .arr ⟨true, true⟩ 2 E0 (List.map a_Term s0.1))]⟩) (fun u0 => .exit 0) (fun u0 => ⟨[(1, .int .i64 u0.1)], [(0, .arr ⟨true, true⟩ 2 E0 (List.map a_Term u0.2))]⟩) (fun u0 => m_laws_markTermS_A0 u0 = some out) hl0 hm (fun u0 hm => ?_) (fun hx0 s0 c0 hm hc0 => ?_)
  · unfold m_laws_markTermS_A0 at hm
    refine T_seq ?_
    refine T_region ?_
    refine TL_pure rfl rfl rfl rfl (op_move rfl) ?_
    refine TL_pure rfl rfl rfl rfl (op_assign rfl) ?_
    refine TL_nil ?_
    refine T_keepH [4] [0] rfl rfl rfl rfl (by rw [hF]; rfl) ?_
    refine T_ret ?_
    obtain rfl := someI hm
    refine ⟨[_], [0], ⟨rfl, trivial⟩, ?_, rfl, rfl, rfl, rfl⟩
    rfl
  · unfold m_laws_markTermS_L0 at hm
    refine T_seq ?_
    refine T_seq ?_
    refine T_region ?_
    refine TL_pure rfl rfl rfl rfl (op_move rfl) ?_
    refine TL_pure rfl rfl rfl rfl (op_move rfl) ?_
    refine TL_pure rfl rfl rfl rfl (op_lenO Try.underlying43 rfl rfl (List.length_map _)) ?_
    refine TL_fact (fun _ _ _ hr => RelP.owLen (id := 0) rfl hr) (fun hlen8 => ?_)
    rw [List.length_map] at hlen8
    refine TL_pure rfl rfl rfl rfl (op_lss rfl rfl) ?_
    refine TL_nil ?_
    refine T_cond rfl (fun hq => ?_) (fun hq => ?_)
    · replace hm := condT hq hm
      refine T_skip ?_
      refine T_seq ?_
      refine T_block ?_
      refine T_seq ?_
      refine T_region ?_
      refine TL_pure rfl rfl rfl rfl (op_move rfl) ?_
      refine TL_pure rfl rfl rfl rfl (op_move rfl) ?_
      refine TL_pure rfl rfl rfl rfl (op_move rfl) ?_
      obtain ⟨x15, hx15, hm⟩ := bindS hm
      refine TL_pure rfl rfl rfl rfl (op_indexO el43 rfl rfl rfl hx15) ?_
      refine TL_pure rfl rfl rfl rfl (op_fieldAddr fa26_0 rfl rfl) ?_
      refine TL_storeFT sz2 rfl rfl ((getI_spec hx15).2) (v' := (Term.mk s0.2.1 x15.Coeffs)) rfl rfl rfl rfl rfl rfl rfl rfl rfl ?_
      refine TL_nil ?_
      refine T_seq ?_
      refine T_region ?_
      refine TL_pure rfl rfl rfl rfl (op_move rfl) ?_
      refine TL_pure rfl rfl rfl rfl (op_addW rfl rfl) ?_
      refine TL_pure rfl rfl rfl rfl (op_assign rfl) ?_
      refine TL_nil ?_
      refine T_region ?_
      refine TL_pure rfl rfl rfl rfl (op_move rfl) ?_
      refine TL_pure rfl rfl rfl rfl (op_move rfl) ?_
      obtain ⟨x21, hx21, hm⟩ := bindS hm
      refine TL_pure rfl rfl rfl rfl (op_indexO el43 rfl rfl rfl hx21) ?_
      refine TL_pure rfl rfl rfl rfl (op_fieldAddr fa26_1 rfl rfl) ?_
      refine TL_pure rfl rfl rfl rfl (op_loadD1 ag24 rfl rfl ((getI_spec hx21).2) rfl rfl rfl rfl) ?_
      refine TL_pure rfl rfl rfl rfl (op_move rfl) ?_
      obtain ⟨r25, hr25, hm⟩ := bindS hm
      refine TL_callSub (id := 0) (i := (s0.2.2).toNat) (j := 1) (e' := a_Term (Term.mk x21.Const r25.2)) (es' := List.map a_Term ((s0.1.set ((s0.2.2).toNat) (Term.mk s0.2.1 x15.Coeffs)).set ((s0.2.2).toNat) (Term.mk x21.Const r25.2))) (fun E' => c_laws_markInt64S x21.Coeffs (w64 (s0.2.1 + (1 : Int))) r25 hr25 E') Try.call48 rfl rfl (get_map ((getI_spec hx21).2)) rfl rfl rfl rfl ⟨.inl ⟨rfl, rfl⟩, .inr ⟨rfl, rfl⟩, trivial⟩ rfl rfl rfl (List.map_set) rfl rfl rfl ?_
      refine TL_pure rfl rfl rfl rfl (op_assign rfl) ?_
      refine TL_nil ?_
      refine T_region ?_
      refine TL_pure rfl rfl rfl rfl (op_move rfl) ?_
      refine TL_pure rfl rfl rfl rfl (op_addW rfl rfl) ?_
      refine TL_pure rfl rfl rfl rfl (op_assign rfl) ?_
      refine TL_nil ?_
      refine TR_keepH [0, 1, 5] [0] rfl rfl rfl rfl (by rw [hF]; rfl) ?_
      obtain rfl := someI hm
      have hn := CtlOK_next hc0
      exact hn _ rfl
    · replace hm := condF hq hm
      refine T_keepH [1] [0] rfl rfl rfl rfl (by rw [hF]; rfl) ?_
      refine T_exit ?_
      obtain rfl := someI hm
      have hn := CtlOK_out hc0
      exact hx0 (s0.2.1, s0.1) hn

theorem c_laws_heldInt64S (p0 : List Int) (p1 : Int) (out : Int) (hm : m_laws_heldInt64S p0 p1 = some out) : ACall Try.prog 70 [.sl 1 (List.map a_i64 p0), .int .i64 p1] [] (.int .i64 out) [] := by
  refine ACall.intro Try.func70 rfl Try.ntmps70 rfl (fun F hF => ?_)
  unfold m_laws_heldInt64S at hm
  refine T_seq ?_
  refine T_region ?_
  refine TL_pure rfl rfl rfl rfl (op_assign rfl) ?_
  refine TL_nil ?_
  refine T_seq ?_
  refine T_seq ?_
  refine T_region ?_
  refine TL_pure rfl rfl rfl rfl (op_assign rfl) ?_
  refine TL_nil ?_
  refine T_block ?_
  refine T_keepH [0, 1, 5] [] rfl rfl rfl rfl (by rw [hF]; rfl) ?_
  refine T_loop ?_
  obtain ⟨u0, hl0, hm⟩ := bindS hm
  refine TR_iter2 (m_laws_heldInt64S_L0 p0) (fun (s0 : Int × Int) => ⟨[(0, .sl 1 (List.map a_i64 p0)), (1, .int .i64 s0.1), (5, .int .i64 s0.2)], []⟩) (fun u0 => match u0 with | .inl u0 => .exit 0 | .inr u0 => .ret) (fun u0 => match u0 with | .inl u0 => ⟨[(1, .int .i64 u0)], []⟩ | .inr u0 => ⟨[(4, .int .i64 u0)], []⟩) (fun u0 => m_laws_heldInt64S_A0 u0 = some out) hl0 hm (fun u0 hm => ?_) (fun hx0 s0 c0 hm hc0 => ?_)
  · rcases u0 with u0 | u0
    · unfold m_laws_heldInt64S_A0 at hm
      refine T_seq ?_
      refine T_region ?_
      refine TL_pure rfl rfl rfl rfl (op_move rfl) ?_
      refine TL_pure rfl rfl rfl rfl (op_assign rfl) ?_
      refine TL_nil ?_
      refine T_keepH [4] [] rfl rfl rfl rfl (by rw [hF]; rfl) ?_
      refine T_ret ?_
      obtain rfl := someI hm
      refine ⟨[_], [], ⟨rfl, trivial⟩, ?_, rfl, rfl, rfl, rfl⟩
      rfl
    · unfold m_laws_heldInt64S_A0 at hm
      obtain rfl := someI hm
      refine ⟨[_], [], ⟨rfl, trivial⟩, ?_, rfl, rfl, rfl, rfl⟩
      rfl
  · unfold m_laws_heldInt64S_L0 at hm
    refine T_seq ?_
    refine T_seq ?_
    refine T_region ?_
    refine TL_pure rfl rfl rfl rfl (op_move rfl) ?_
    refine TL_pure rfl rfl rfl rfl (op_move rfl) ?_
    refine TL_pure rfl rfl rfl rfl (op_lenT Try.underlying24 rfl (List.length_map _)) ?_
    refine TL_fact (fun _ _ _ hr => RelP.slLen (i := 7) rfl hr) (fun hlen8 => ?_)
    rw [List.length_map] at hlen8
    refine TL_pure rfl rfl rfl rfl (op_lss rfl rfl) ?_
    refine TL_nil ?_
    refine T_cond rfl (fun hq => ?_) (fun hq => ?_)
    · replace hm := condT hq hm
      refine T_skip ?_
      refine T_seq ?_
      refine T_block ?_
      refine T_seq ?_
      refine T_seq ?_
      refine T_region ?_
      refine TL_pure rfl rfl rfl rfl (op_move rfl) ?_
      refine TL_pure rfl rfl rfl rfl (op_move rfl) ?_
      obtain ⟨x14, hx14, hm⟩ := bindS hm
      refine TL_pure rfl rfl rfl rfl (op_indexT el24 rfl rfl hx14 rfl) ?_
      refine TL_pure rfl rfl rfl rfl (op_load_one ag2 rfl rfl) ?_
      refine TL_pure rfl rfl rfl rfl (op_move rfl) ?_
      refine TL_pure rfl rfl rfl rfl (op_neq rfl rfl) ?_
      refine TL_nil ?_
      refine T_cond rfl (fun hq => ?_) (fun hq => ?_)
      · replace hm := condT hq hm
        refine T_seq ?_
        refine T_region ?_
        refine TL_pure rfl rfl rfl rfl (op_assign rfl) ?_
        refine TL_nil ?_
        refine T_keepH [4] [] rfl rfl rfl rfl (by rw [hF]; rfl) ?_
        refine T_ret ?_
        obtain rfl := someI hm
        have hn := CtlOK_out hc0
        exact hx0 (.inr (-1 : Int)) hn
      · replace hm := condF hq hm
        refine T_skip ?_
        refine T_region ?_
        refine TL_pure rfl rfl rfl rfl (op_move rfl) ?_
        refine TL_pure rfl rfl rfl rfl (op_addW rfl rfl) ?_
        refine TL_pure rfl rfl rfl rfl (op_assign rfl) ?_
        refine TL_nil ?_
        refine T_region ?_
        refine TL_pure rfl rfl rfl rfl (op_move rfl) ?_
        refine TL_pure rfl rfl rfl rfl (op_addW rfl rfl) ?_
        refine TL_pure rfl rfl rfl rfl (op_assign rfl) ?_
        refine TL_nil ?_
        refine TR_keepH [0, 1, 5] [] rfl rfl rfl rfl (by rw [hF]; rfl) ?_
        obtain rfl := someI hm
        have hn := CtlOK_next hc0
        exact hn _ rfl
    · replace hm := condF hq hm
      refine T_keepH [1] [] rfl rfl rfl rfl (by rw [hF]; rfl) ?_
      refine T_exit ?_
      obtain rfl := someI hm
      have hn := CtlOK_out hc0
      exact hx0 (.inl s0.1) hn

theorem c_laws_heldTerm (p0 : Term) (p1 : Int) (out : Int) (hm : m_laws_heldTerm p0 p1 = some out) : ACall Try.prog 30 [.agg [.int .i64 p0.Const, .sl 1 (List.map a_i64 p0.Coeffs)], .int .i64 p1] [] (.int .i64 out) [] := by
  refine ACall.intro Try.func30 rfl Try.ntmps30 rfl (fun F hF => ?_)
  unfold m_laws_heldTerm at hm
  refine T_seq ?_
  refine T_region ?_
  refine TL_box 11 rfl rfl rfl rfl rfl rfl rfl ?_
  refine TL_pure rfl rfl rfl rfl (op_assign rfl) ?_
  refine TL_nil ?_
  refine T_seq ?_
  refine T_region ?_
  refine TL_pure rfl rfl rfl rfl (op_fieldAddr fa26_1 rfl rfl) ?_
  refine TL_pure rfl rfl rfl rfl (op_load_one ag24 rfl rfl) ?_
  refine TL_pure rfl rfl rfl rfl (op_move rfl) ?_
  obtain ⟨r8, hr8, hm⟩ := bindS hm
  refine TL_callF (c_laws_heldInt64S p0.Coeffs p1 r8 hr8) Try.call70 rfl rfl rfl rfl rfl ?_
  refine TL_pure rfl rfl rfl rfl (op_assign rfl) ?_
  refine TL_nil ?_
  refine T_seq ?_
  refine T_seq ?_
  refine T_region ?_
  refine TL_pure rfl rfl rfl rfl (op_move rfl) ?_
  refine TL_pure rfl rfl rfl rfl (op_lss rfl rfl) ?_
  refine TL_nil ?_
  refine T_cond rfl (fun hq => ?_) (fun hq => ?_)
  · replace hm := condT hq hm
    refine T_seq ?_
    refine T_region ?_
    refine TL_pure rfl rfl rfl rfl (op_assign rfl) ?_
    refine TL_nil ?_
    refine T_keepH [4] [] rfl rfl rfl rfl (by rw [hF]; rfl) ?_
    refine T_ret ?_
    obtain rfl := someI hm
    refine ⟨[_], [], ⟨rfl, trivial⟩, ?_, rfl, rfl, rfl, rfl⟩
    rfl
  · replace hm := condF hq hm
    refine T_skip ?_
    refine T_seq ?_
    refine T_region ?_
    refine TL_pure rfl rfl rfl rfl (op_move rfl) ?_
    refine TL_pure rfl rfl rfl rfl (op_assign rfl) ?_
    refine TL_nil ?_
    refine T_keepH [4] [] rfl rfl rfl rfl (by rw [hF]; rfl) ?_
    refine T_ret ?_
    obtain rfl := someI hm
    refine ⟨[_], [], ⟨rfl, trivial⟩, ?_, rfl, rfl, rfl, rfl⟩
    rfl

theorem c_laws_FnExactSubstituteTerm (p0 : Term) (p1 : List Term) (out : Bool) (hm : m_laws_FnExactSubstituteTerm p0 p1 = some out) : ACall Try.prog 13 [.agg [.int .i64 p0.Const, .sl 1 (List.map a_i64 p0.Coeffs)], .sl 2 (List.map a_Term p1)] [] (.bool out) [] := by
  refine ACall.intro Try.func13 rfl Try.ntmps13 rfl (fun F hF => ?_)
  unfold m_laws_FnExactSubstituteTerm at hm
  refine T_seq ?_
  refine T_region ?_
  refine TL_box 11 rfl rfl rfl rfl rfl rfl rfl ?_
  refine TL_pure rfl rfl rfl rfl (op_assign rfl) ?_
  refine TL_nil ?_
  refine T_seq ?_
  refine T_region ?_
  refine TL_pure rfl rfl rfl rfl (op_assign rfl) ?_
  refine TL_nil ?_
  refine T_seq ?_
  refine T_region ?_
  refine TL_pure rfl rfl rfl rfl (op_load_agg ag35 sz35 rfl rfl rfl) ?_
  refine TL_pure rfl rfl rfl rfl (op_move rfl) ?_
  obtain ⟨r19, hr19, hm⟩ := bindS hm
  refine TL_callF (c_laws_szTerm p0 (1048576 : Int) r19 hr19) Try.call24 rfl rfl rfl rfl rfl ?_
  refine TL_pure rfl rfl rfl rfl (op_assign rfl) ?_
  refine TL_nil ?_
  refine T_seq ?_
  refine T_seq ?_
  refine T_region ?_
  refine TL_pure rfl rfl rfl rfl (op_move rfl) ?_
  refine TL_pure rfl rfl rfl rfl (op_lss rfl rfl) ?_
  refine TL_nil ?_
  refine T_cond rfl (fun hq => ?_) (fun hq => ?_)
  · replace hm := condT hq hm
    refine T_seq ?_
    refine T_region ?_
    refine TL_pure rfl rfl rfl rfl (op_assign rfl) ?_
    refine TL_nil ?_
    refine T_keepH [4] [] rfl rfl rfl rfl (by rw [hF]; rfl) ?_
    refine T_ret ?_
    obtain rfl := someI hm
    refine ⟨[_], [], ⟨rfl, trivial⟩, ?_, rfl, rfl, rfl, rfl⟩
    rfl
  · replace hm := condF hq hm
    refine T_skip ?_
    refine T_seq ?_
    refine T_region ?_
    refine TL_pure rfl rfl rfl rfl (op_move rfl) ?_
    refine TL_pure rfl rfl rfl rfl (op_move rfl) ?_
    obtain ⟨r24, hr24, hm⟩ := bindS hm
    refine TL_callF (c_laws_szTermS p1 r19 r24 hr24) Try.call39 rfl rfl rfl rfl rfl ?_
    refine TL_pure rfl rfl rfl rfl (op_assign rfl) ?_
    refine TL_nil ?_
    refine T_seq ?_
    refine T_seq ?_
    refine T_region ?_
    refine TL_pure rfl rfl rfl rfl (op_move rfl) ?_
    refine TL_pure rfl rfl rfl rfl (op_lss rfl rfl) ?_
    refine TL_nil ?_
    refine T_cond rfl (fun hq => ?_) (fun hq => ?_)
    · replace hm := condT hq hm
      refine T_seq ?_
      refine T_region ?_
      refine TL_pure rfl rfl rfl rfl (op_assign rfl) ?_
      refine TL_nil ?_
      refine T_keepH [4] [] rfl rfl rfl rfl (by rw [hF]; rfl) ?_
      refine T_ret ?_
      obtain rfl := someI hm
      refine ⟨[_], [], ⟨rfl, trivial⟩, ?_, rfl, rfl, rfl, rfl⟩
      rfl
    · replace hm := condF hq hm
      refine T_skip ?_
      refine T_seq ?_
      refine T_region ?_
      refine TL_pure rfl rfl rfl rfl (op_load_agg ag35 sz35 rfl rfl rfl) ?_
      obtain ⟨r29, hr29, hm⟩ := bindS hm
      refine TL_callO [(1000, 12)] (c_laws_toTerm p0 r29 hr29) Try.call26 rfl rfl rfl rfl rfl rfl rfl rfl rfl rfl rfl rfl rfl ?_
      refine TL_pure rfl rfl rfl rfl (op_move rfl) ?_
      obtain ⟨r31, hr31, hm⟩ := bindS hm
      refine TL_callO [(1000, 13)] (c_laws_toTermS p1 r31 hr31) Try.call41 rfl rfl rfl rfl rfl rfl rfl rfl rfl rfl rfl rfl rfl ?_
      obtain ⟨r32, hr32, hm⟩ := bindS hm
      refine TL_callO [(1000, 14)] (c_spec_SubstituteTerm r29 r31 r32 hr32) Try.call49 rfl rfl rfl rfl rfl rfl rfl rfl rfl rfl rfl rfl rfl ?_
      refine TL_pure rfl rfl rfl rfl (op_move rfl) ?_
      refine TL_pure rfl rfl rfl rfl (op_extract rfl rfl) ?_
      refine TL_pure rfl rfl rfl rfl (op_extract rfl rfl) ?_
      refine TL_alloc 15 z26 rfl rfl rfl rfl rfl rfl rfl ?_
      refine TL_store_box sz26 rfl rfl rfl rfl rfl rfl rfl rfl rfl ?_
      refine TL_pure rfl rfl rfl rfl (op_assign rfl) ?_
      refine TL_nil ?_
      refine T_seq ?_
      refine T_region ?_
      refine TL_pure rfl rfl rfl rfl (op_load_agg ag35 sz35 rfl rfl rfl) ?_
      obtain ⟨r36, hr36, hm⟩ := bindS hm
      refine TL_callO [(1000, 16)] (c_laws_toTerm p0 r36 hr36) Try.call26 rfl rfl rfl rfl rfl rfl rfl rfl rfl rfl rfl rfl rfl ?_
      refine TL_alloc 17 z26 rfl rfl rfl rfl rfl rfl rfl ?_
      refine TL_store_box sz26 rfl rfl rfl rfl rfl rfl rfl rfl rfl ?_
      refine TL_nil ?_
      refine T_seq ?_
      refine T_region ?_
      refine TL_pure rfl rfl rfl rfl (op_move rfl) ?_
      obtain ⟨r38, hr38, hm⟩ := bindS hm
      refine TL_callO [(1000, 18)] (c_laws_toTermS p1 r38 hr38) Try.call41 rfl rfl rfl rfl rfl rfl rfl rfl rfl rfl rfl rfl rfl ?_
      refine TL_pure rfl rfl rfl rfl (op_assign rfl) ?_
      refine TL_nil ?_
      refine T_seq ?_
      refine T_region ?_
      refine TL_pure rfl rfl rfl rfl (op_load_agg ag26 sz26 rfl rfl rfl) ?_
      refine TL_pure rfl rfl rfl rfl (op_move rfl) ?_
      obtain ⟨r42, hr42, hm⟩ := bindS hm
      refine TL_callO [(1000, 19)] (c_impl_SubstituteTerm r36 r38 r42 hr42) Try.call32 rfl rfl rfl rfl rfl rfl rfl rfl rfl rfl rfl rfl rfl ?_
      refine TL_pure rfl rfl rfl rfl (op_move rfl) ?_
      refine TL_pure rfl rfl rfl rfl (op_extract rfl rfl) ?_
      refine TL_pure rfl rfl rfl rfl (op_extract rfl rfl) ?_
      refine TL_alloc 20 z26 rfl rfl rfl rfl rfl rfl rfl ?_
      refine TL_store_box sz26 rfl rfl rfl rfl rfl rfl rfl rfl rfl ?_
      refine TL_pure rfl rfl rfl rfl (op_assign rfl) ?_
      refine TL_nil ?_
      refine T_seq ?_
      refine T_seq ?_
      refine T_region ?_
      refine TL_pure rfl rfl rfl rfl (op_load_agg ag26 sz26 rfl rfl rfl) ?_
      refine TL_pure rfl rfl rfl rfl (op_load_agg ag26 sz26 rfl rfl rfl) ?_
      obtain ⟨r47, hr47, hm⟩ := bindS hm
      refine TL_callF (c_laws_eqTerm r42.1 r32.1 r47 hr47) Try.call28 rfl rfl rfl rfl rfl ?_
      refine TL_pure rfl rfl rfl rfl (op_not rfl) ?_
      refine TL_pure rfl rfl rfl rfl (op_move rfl) ?_
      refine TL_join 4 (fun _ : Unit => ⟨[(1, .sl 2 (List.map a_Term p1)), (2, .ptr 11 0 0), (6, .ptr 15 0 0), (7, .bool r32.2), (8, .ptr 17 0 0), (9, .ow 18), (10, .ptr 20 0 0), (11, .bool r42.2), (53, .bool ((!r47) || (!(r42.2 == r32.2))))], [(11, .box [.int .i64 p0.Const, .sl 1 (List.map a_i64 p0.Coeffs)]), (14, .arr ⟨false, true⟩ 1 2 (List.map a_i64 r32.1.Coeffs)), (15, .box [.int .i64 r32.1.Const, .ow 14]), (16, .arr ⟨false, true⟩ 1 2 (List.map a_i64 r36.Coeffs)), (17, .box [.int .i64 r36.Const, .ow 16]), (18, .arr ⟨false, true⟩ 2 26 (List.map a_Term r38)), (19, .arr ⟨false, true⟩ 1 2 (List.map a_i64 r42.1.Coeffs)), (20, .box [.int .i64 r42.1.Const, .ow 19])]⟩) (fun _ => True) (fun _ _ => ?_) (fun hjj => ?_)
      · refine TL_nil ?_
        refine T_cond rfl (fun hq => ?_) (fun hq => ?_)
        · replace hm := condT hq hm
          refine T_seq ?_
          refine T_region ?_
          refine TL_pure rfl rfl rfl rfl (op_assign rfl) ?_
          refine TL_nil ?_
          refine T_keepH [4] [] rfl rfl rfl rfl (by rw [hF]; rfl) ?_
          refine T_ret ?_
          obtain rfl := someI hm
          refine ⟨[_], [], ⟨rfl, trivial⟩, ?_, rfl, rfl, rfl, rfl⟩
          rfl
        · replace hm := condF hq hm
          refine T_skip ?_
          refine T_seq ?_
          refine T_seq ?_
          refine T_drawZ [] mix (by kernel_rfl) rfl ?_
          obtain ⟨r56, hr56, hm⟩ := bindS hm
          obtain ⟨r57, hr57, hm⟩ := bindS hm
          refine TZ_pure 0 (by kernel_rfl) rfl rfl rfl rfl rfl (op_load_agg ag26 sz26 rfl rfl rfl) ?_
          refine TZ_pure 1 (by kernel_rfl) rfl rfl rfl rfl rfl (op_load_agg ag35 sz35 rfl rfl rfl) ?_
          refine TZ_one 2 (by kernel_rfl) rfl ?_
          refine TL_callO [(1000, 24)] (c_laws_toTerm p0 r56 hr56) Try.call26 rfl rfl rfl rfl rfl rfl rfl rfl rfl rfl rfl rfl rfl ?_
          refine TL_nil ?_
          refine TZ_one 3 (by kernel_rfl) rfl ?_
          refine TL_callF (c_laws_eqTerm r36 r56 r57 hr57) Try.call28 rfl rfl rfl rfl rfl ?_
          refine TL_nil ?_
          refine TZ_pure 4 (by kernel_rfl) rfl rfl rfl rfl rfl (op_not rfl) ?_
          refine TZ_done (by kernel_rfl) ?_
          refine T_cond rfl (fun hq => ?_) (fun hq => ?_)
          · replace hm := condT hq hm
            refine T_seq ?_
            refine T_region ?_
            refine TL_pure rfl rfl rfl rfl (op_assign rfl) ?_
            refine TL_nil ?_
            refine T_keepH [4] [] rfl rfl rfl rfl (by rw [hF]; rfl) ?_
            refine T_ret ?_
            obtain rfl := someI hm
            refine ⟨[_], [], ⟨rfl, trivial⟩, ?_, rfl, rfl, rfl, rfl⟩
            rfl
          · replace hm := condF hq hm
            refine T_skip ?_
            refine T_seq ?_
            refine T_seq ?_
            refine T_region ?_
            refine TL_pure rfl rfl rfl rfl (op_move rfl) ?_
            refine TL_pure rfl rfl rfl rfl (op_move rfl) ?_
            obtain ⟨r61, hr61, hm⟩ := bindS hm
            refine TL_callO [(1000, 25)] (c_laws_toTermS p1 r61 hr61) Try.call41 rfl rfl rfl rfl rfl rfl rfl rfl rfl rfl rfl rfl rfl ?_
            obtain ⟨r62, hr62, hm⟩ := bindS hm
            refine TL_callF (c_laws_eqTermS r38 r61 r62 hr62) Try.call44 rfl rfl rfl rfl rfl ?_
            refine TL_pure rfl rfl rfl rfl (op_not rfl) ?_
            refine TL_nil ?_
            refine T_cond rfl (fun hq => ?_) (fun hq => ?_)
            · replace hm := condT hq hm
              refine T_seq ?_
              refine T_region ?_
              refine TL_pure rfl rfl rfl rfl (op_assign rfl) ?_
              refine TL_nil ?_
              refine T_keepH [4] [] rfl rfl rfl rfl (by rw [hF]; rfl) ?_
              refine T_ret ?_
              obtain rfl := someI hm
              refine ⟨[_], [], ⟨rfl, trivial⟩, ?_, rfl, rfl, rfl, rfl⟩
              rfl
            · replace hm := condF hq hm
              refine T_skip ?_
              refine T_seq ?_
              refine T_region ?_
              refine TL_pure rfl rfl rfl rfl (op_assign rfl) ?_
              refine TL_nil ?_
              refine T_seq ?_
              refine T_region ?_
              refine TL_pure rfl rfl rfl rfl (op_load_agg ag26 sz26 rfl rfl rfl) ?_
              refine TL_pure rfl rfl rfl rfl (op_move rfl) ?_
              refine TL_pin 16 (k' := ⟨true, true⟩) (by rw [hF]; rfl) rfl rfl rfl ?_
              obtain ⟨r66, hr66, hm⟩ := bindS hm
              refine TL_call [(0, 16)] [] [] (c_laws_markTerm r36 (1 : Int) r66 hr66 _) Try.call29 rfl rfl rfl rfl rfl ⟨rfl, trivial⟩ rfl rfl rfl rfl rfl rfl rfl rfl rfl rfl rfl ?_
              refine TL_pure rfl rfl rfl rfl (op_assign rfl) ?_
              refine TL_nil ?_
              refine T_seq ?_
              refine T_region ?_
              refine TL_pure rfl rfl rfl rfl (op_move rfl) ?_
              refine TL_pure rfl rfl rfl rfl (op_move rfl) ?_
              refine TL_pin 18 (k' := ⟨true, true⟩) (by rw [hF]; rfl) rfl rfl rfl ?_
              obtain ⟨r69, hr69, hm⟩ := bindS hm
              refine TL_call [(0, 18)] [] [] (c_laws_markTermS r38 r66.1 r69 hr69 _) Try.call47 rfl rfl rfl rfl rfl ⟨rfl, trivial⟩ rfl rfl rfl rfl rfl rfl rfl rfl rfl rfl rfl ?_
              refine TL_pure rfl rfl rfl rfl (op_assign rfl) ?_
              refine TL_nil ?_
              refine T_seq ?_
              refine T_seq ?_
              refine T_region ?_
              refine TL_pure rfl rfl rfl rfl (op_move rfl) ?_
              refine TL_pure rfl rfl rfl rfl (op_lss rfl rfl) ?_
              refine TL_pure rfl rfl rfl rfl (op_move rfl) ?_
              refine TL_split 72 rfl rfl rfl (fun hq => ?_) (fun hq => ?_)
              · replace hm := condT hq hm
                refine TL_pass rfl rfl rfl rfl rfl rfl rfl ?_
                refine TL_pass rfl rfl rfl rfl rfl rfl rfl ?_
                refine TL_pass rfl rfl rfl rfl rfl rfl rfl ?_
                refine TL_pass rfl rfl rfl rfl rfl rfl rfl ?_
                refine TL_pure rfl rfl rfl rfl (op_pick_true rfl rfl) ?_
                refine TL_pure rfl rfl rfl rfl (op_move rfl) ?_
                refine TL_pass rfl rfl rfl rfl rfl rfl rfl ?_
                refine TL_pass rfl rfl rfl rfl rfl rfl rfl ?_
                refine TL_pass rfl rfl rfl rfl rfl rfl rfl ?_
                refine TL_pure rfl rfl rfl rfl (op_pick_true rfl rfl) ?_
                refine TL_nil ?_
                refine T_cond_true rfl ?_
                refine T_seq ?_
                refine T_region ?_
                refine TL_pure rfl rfl rfl rfl (op_assign rfl) ?_
                refine TL_nil ?_
                refine T_keepH [4] [] rfl rfl rfl rfl (by rw [hF]; rfl) ?_
                refine T_ret ?_
                obtain rfl := someI hm
                refine ⟨[_], [], ⟨rfl, trivial⟩, ?_, rfl, rfl, rfl, rfl⟩
                rfl
              · replace hm := condF hq hm
                refine TL_want rfl rfl ?_
                refine TL_pure rfl rfl rfl rfl (op_load_agg ag26 sz26 rfl rfl rfl) ?_
                refine TL_want rfl rfl ?_
                refine TL_pure rfl rfl rfl rfl (op_load_agg ag26 sz26 rfl rfl rfl) ?_
                refine TL_want rfl rfl ?_
                obtain ⟨r75, hr75, hm⟩ := bindS hm
                refine TL_callF (c_laws_eqTerm r42.1 r32.1 r75 hr75) Try.call28 rfl rfl rfl rfl rfl ?_
                refine TL_want rfl rfl ?_
                refine TL_pure rfl rfl rfl rfl (op_not rfl) ?_
                refine TL_pure rfl rfl rfl rfl (op_pick_false rfl rfl) ?_
                refine TL_pure rfl rfl rfl rfl (op_move rfl) ?_
                refine TL_join 4 (fun _ : Unit => ⟨[(1, .sl 2 (List.map a_Term p1)), (2, .ptr 11 0 0), (6, .ptr 15 0 0), (7, .bool r32.2), (10, .ptr 20 0 0), (82, .bool ((!r75) || (!(r42.2 == r32.2))))], [(11, .box [.int .i64 p0.Const, .sl 1 (List.map a_i64 p0.Coeffs)]), (14, .arr ⟨false, true⟩ 1 2 (List.map a_i64 r32.1.Coeffs)), (15, .box [.int .i64 r32.1.Const, .ow 14]), (19, .arr ⟨false, true⟩ 1 2 (List.map a_i64 r42.1.Coeffs)), (20, .box [.int .i64 r42.1.Const, .ow 19])]⟩) (fun _ => True) (fun _ _ => ?_) (fun hjj => ?_)
                · refine TL_nil ?_
                  refine T_cond rfl (fun hq => ?_) (fun hq => ?_)
                  · replace hm := condT hq hm
                    refine T_seq ?_
                    refine T_region ?_
                    refine TL_pure rfl rfl rfl rfl (op_assign rfl) ?_
                    refine TL_nil ?_
                    refine T_keepH [4] [] rfl rfl rfl rfl (by rw [hF]; rfl) ?_
                    refine T_ret ?_
                    obtain rfl := someI hm
                    refine ⟨[_], [], ⟨rfl, trivial⟩, ?_, rfl, rfl, rfl, rfl⟩
                    rfl
                  · replace hm := condF hq hm
                    refine T_skip ?_
                    refine T_seq ?_
                    refine T_region ?_
                    refine TL_pure rfl rfl rfl rfl (op_assign rfl) ?_
                    refine TL_nil ?_
                    refine T_seq ?_
                    refine T_region ?_
                    refine TL_pure rfl rfl rfl rfl (op_load_agg ag26 sz26 rfl rfl rfl) ?_
                    refine TL_pure rfl rfl rfl rfl (op_move rfl) ?_
                    refine TL_pin 19 (k' := ⟨true, true⟩) (by rw [hF]; rfl) rfl rfl rfl ?_
                    obtain ⟨r85, hr85, hm⟩ := bindS hm
                    refine TL_call [(0, 19)] [] [] (c_laws_markTerm r42.1 (1 : Int) r85 hr85 _) Try.call29 rfl rfl rfl rfl rfl ⟨rfl, trivial⟩ rfl rfl rfl rfl rfl rfl rfl rfl rfl rfl rfl ?_
                    refine TL_pure rfl rfl rfl rfl (op_assign rfl) ?_
                    refine TL_nil ?_
                    refine T_seq ?_
                    refine T_region ?_
                    refine TL_pure rfl rfl rfl rfl (op_assign rfl) ?_
                    refine TL_nil ?_
                    refine T_seq ?_
                    refine T_region ?_
                    refine TL_pure rfl rfl rfl rfl (op_load_agg ag26 sz26 rfl rfl rfl) ?_
                    refine TL_pure rfl rfl rfl rfl (op_move rfl) ?_
                    obtain ⟨r88, hr88, hm⟩ := bindS hm
                    refine TL_callF (c_laws_heldTerm (Term.mk r42.1.Const r85.2) (1 : Int) r88 hr88) Try.call30 rfl rfl rfl rfl rfl ?_
                    refine TL_pure rfl rfl rfl rfl (op_assign rfl) ?_
                    refine TL_nil ?_
                    refine T_seq ?_
                    refine T_seq ?_
                    refine T_region ?_
                    refine TL_pure rfl rfl rfl rfl (op_move rfl) ?_
                    refine TL_pure rfl rfl rfl rfl (op_lss rfl rfl) ?_
                    refine TL_nil ?_
                    refine T_cond rfl (fun hq => ?_) (fun hq => ?_)
                    · replace hm := condT hq hm
                      refine T_seq ?_
                      refine T_region ?_
                      refine TL_pure rfl rfl rfl rfl (op_assign rfl) ?_
                      refine TL_nil ?_
                      refine T_keepH [4] [] rfl rfl rfl rfl (by rw [hF]; rfl) ?_
                      refine T_ret ?_
                      obtain rfl := someI hm
                      refine ⟨[_], [], ⟨rfl, trivial⟩, ?_, rfl, rfl, rfl, rfl⟩
                      rfl
                    · replace hm := condF hq hm
                      refine T_skip ?_
                      refine T_seq ?_
                      refine T_seq ?_
                      refine T_region ?_
                      refine TL_pure rfl rfl rfl rfl (op_move rfl) ?_
                      refine TL_pure rfl rfl rfl rfl (op_move rfl) ?_
                      refine TL_pure rfl rfl rfl rfl (op_neq rfl rfl) ?_
                      refine TL_nil ?_
                      refine T_cond rfl (fun hq => ?_) (fun hq => ?_)
                      · replace hm := condT hq hm
                        refine T_seq ?_
                        refine T_region ?_
                        refine TL_pure rfl rfl rfl rfl (op_assign rfl) ?_
                        refine TL_nil ?_
                        refine T_keepH [4] [] rfl rfl rfl rfl (by rw [hF]; rfl) ?_
                        refine T_ret ?_
                        obtain rfl := someI hm
                        refine ⟨[_], [], ⟨rfl, trivial⟩, ?_, rfl, rfl, rfl, rfl⟩
                        rfl
                      · replace hm := condF hq hm
                        refine T_skip ?_
                        refine T_seq ?_
                        refine T_region ?_
                        refine TL_pure rfl rfl rfl rfl (op_load_agg ag35 sz35 rfl rfl rfl) ?_
                        obtain ⟨r96, hr96, hm⟩ := bindS hm
                        refine TL_callO [(1000, 26)] (c_laws_toTerm p0 r96 hr96) Try.call26 rfl rfl rfl rfl rfl rfl rfl rfl rfl rfl rfl rfl rfl ?_
                        refine TL_pure rfl rfl rfl rfl (op_move rfl) ?_
                        obtain ⟨r98, hr98, hm⟩ := bindS hm
                        refine TL_callO [(1000, 27)] (c_laws_toTermS p1 r98 hr98) Try.call41 rfl rfl rfl rfl rfl rfl rfl rfl rfl rfl rfl rfl rfl ?_
                        obtain ⟨r99, hr99, hm⟩ := bindS hm
                        refine TL_callO [(1000, 28)] (c_impl_SubstituteTerm r96 r98 r99 hr99) Try.call32 rfl rfl rfl rfl rfl rfl rfl rfl rfl rfl rfl rfl rfl ?_
                        refine TL_pure rfl rfl rfl rfl (op_move rfl) ?_
                        refine TL_pure rfl rfl rfl rfl (op_extract rfl rfl) ?_
                        refine TL_pure rfl rfl rfl rfl (op_extract rfl rfl) ?_
                        refine TL_alloc 29 z26 rfl rfl rfl rfl rfl rfl rfl ?_
                        refine TL_store_box sz26 rfl rfl rfl rfl rfl rfl rfl rfl rfl ?_
                        refine TL_pure rfl rfl rfl rfl (op_assign rfl) ?_
                        refine TL_nil ?_
                        refine T_seq ?_
                        refine T_seq ?_
                        refine T_region ?_
                        refine TL_pure rfl rfl rfl rfl (op_load_agg ag26 sz26 rfl rfl rfl) ?_
                        refine TL_pure rfl rfl rfl rfl (op_load_agg ag26 sz26 rfl rfl rfl) ?_
                        obtain ⟨r104, hr104, hm⟩ := bindS hm
                        refine TL_callF (c_laws_eqTerm r99.1 r32.1 r104 hr104) Try.call28 rfl rfl rfl rfl rfl ?_
                        refine TL_pure rfl rfl rfl rfl (op_not rfl) ?_
                        refine TL_pure rfl rfl rfl rfl (op_move rfl) ?_
                        refine TL_join 4 (fun _ : Unit => ⟨[(10, .ptr 20 0 0), (13, .int .i64 r85.1), (110, .bool ((!r104) || (!(r99.2 == r32.2))))], [(19, .arr ⟨true, true⟩ 1 2 (List.map a_i64 r85.2)), (20, .box [.int .i64 r42.1.Const, .ow 19])]⟩) (fun _ => True) (fun _ _ => ?_) (fun hjj => ?_)
                        · refine TL_nil ?_
                          refine T_cond rfl (fun hq => ?_) (fun hq => ?_)
                          · replace hm := condT hq hm
                            refine T_seq ?_
                            refine T_region ?_
                            refine TL_pure rfl rfl rfl rfl (op_assign rfl) ?_
                            refine TL_nil ?_
                            refine T_keepH [4] [] rfl rfl rfl rfl (by rw [hF]; rfl) ?_
                            refine T_ret ?_
                            obtain rfl := someI hm
                            refine ⟨[_], [], ⟨rfl, trivial⟩, ?_, rfl, rfl, rfl, rfl⟩
                            rfl
                          · replace hm := condF hq hm
                            refine T_skip ?_
                            refine T_seq ?_
                            refine T_region ?_
                            refine TL_pure rfl rfl rfl rfl (op_assign rfl) ?_
                            refine TL_nil ?_
                            refine T_seq ?_
                            refine T_region ?_
                            refine TL_pure rfl rfl rfl rfl (op_load_agg ag26 sz26 rfl rfl rfl) ?_
                            refine TL_pure rfl rfl rfl rfl (op_move rfl) ?_
                            obtain ⟨r113, hr113, hm⟩ := bindS hm
                            refine TL_callF (c_laws_heldTerm (Term.mk r42.1.Const r85.2) (1 : Int) r113 hr113) Try.call30 rfl rfl rfl rfl rfl ?_
                            refine TL_pure rfl rfl rfl rfl (op_assign rfl) ?_
                            refine TL_nil ?_
                            refine T_seq ?_
                            refine T_seq ?_
                            refine T_region ?_
                            refine TL_pure rfl rfl rfl rfl (op_move rfl) ?_
                            refine TL_pure rfl rfl rfl rfl (op_lss rfl rfl) ?_
                            refine TL_nil ?_
                            refine T_cond rfl (fun hq => ?_) (fun hq => ?_)
                            · replace hm := condT hq hm
                              refine T_seq ?_
                              refine T_region ?_
                              refine TL_pure rfl rfl rfl rfl (op_assign rfl) ?_
                              refine TL_nil ?_
                              refine T_keepH [4] [] rfl rfl rfl rfl (by rw [hF]; rfl) ?_
                              refine T_ret ?_
                              obtain rfl := someI hm
                              refine ⟨[_], [], ⟨rfl, trivial⟩, ?_, rfl, rfl, rfl, rfl⟩
                              rfl
                            · replace hm := condF hq hm
                              refine T_skip ?_
                              refine T_seq ?_
                              refine T_seq ?_
                              refine T_region ?_
                              refine TL_pure rfl rfl rfl rfl (op_move rfl) ?_
                              refine TL_pure rfl rfl rfl rfl (op_move rfl) ?_
                              refine TL_pure rfl rfl rfl rfl (op_neq rfl rfl) ?_
                              refine TL_nil ?_
                              refine T_cond rfl (fun hq => ?_) (fun hq => ?_)
                              · replace hm := condT hq hm
                                refine T_seq ?_
                                refine T_region ?_
                                refine TL_pure rfl rfl rfl rfl (op_assign rfl) ?_
                                refine TL_nil ?_
                                refine T_keepH [4] [] rfl rfl rfl rfl (by rw [hF]; rfl) ?_
                                refine T_ret ?_
                                obtain rfl := someI hm
                                refine ⟨[_], [], ⟨rfl, trivial⟩, ?_, rfl, rfl, rfl, rfl⟩
                                rfl
                              · replace hm := condF hq hm
                                refine T_skip ?_
                                refine T_seq ?_
                                refine T_region ?_
                                refine TL_pure rfl rfl rfl rfl (op_assign rfl) ?_
                                refine TL_nil ?_
                                refine T_keepH [4] [] rfl rfl rfl rfl (by rw [hF]; rfl) ?_
                                refine T_ret ?_
                                obtain rfl := someI hm
                                refine ⟨[_], [], ⟨rfl, trivial⟩, ?_, rfl, rfl, rfl, rfl⟩
                                rfl
                        · refine TL_split 106 rfl rfl rfl (fun hq => ?_) (fun hq => ?_)
                          · refine TL_pass rfl rfl rfl rfl rfl rfl rfl ?_
                            refine TL_pass rfl rfl rfl rfl rfl rfl rfl ?_
                            refine TL_pass rfl rfl rfl rfl rfl rfl rfl ?_
                            refine TL_pure rfl rfl rfl rfl (op_pick_true rfl rfl) ?_
                            refine TL_keepH [10, 13, 110] [19, 20] rfl rfl rfl rfl (by rw [hF]; rfl) ?_
                            exact TL_cast _ (by rw [hq]; rfl) (hjj () trivial)
                          · refine TL_want rfl rfl ?_
                            refine TL_pure rfl rfl rfl rfl (op_move rfl) ?_
                            refine TL_want rfl rfl ?_
                            refine TL_pure rfl rfl rfl rfl (op_move rfl) ?_
                            refine TL_want rfl rfl ?_
                            refine TL_pure rfl rfl rfl rfl (op_neqB Try.underlying4 rfl rfl) ?_
                            refine TL_pure rfl rfl rfl rfl (op_pick_false rfl rfl) ?_
                            refine TL_keepH [10, 13, 110] [19, 20] rfl rfl rfl rfl (by rw [hF]; rfl) ?_
                            exact TL_cast _ (by rw [hq]; rfl) (hjj () trivial)
                · refine TL_split 78 rfl rfl rfl (fun hq => ?_) (fun hq => ?_)
                  · refine TL_pass rfl rfl rfl rfl rfl rfl rfl ?_
                    refine TL_pass rfl rfl rfl rfl rfl rfl rfl ?_
                    refine TL_pass rfl rfl rfl rfl rfl rfl rfl ?_
                    refine TL_pure rfl rfl rfl rfl (op_pick_true rfl rfl) ?_
                    refine TL_keepH [1, 2, 6, 7, 10, 82] [11, 14, 15, 19, 20] rfl rfl rfl rfl (by rw [hF]; rfl) ?_
                    exact TL_cast _ (by rw [hq]; rfl) (hjj () trivial)
                  · refine TL_want rfl rfl ?_
                    refine TL_pure rfl rfl rfl rfl (op_move rfl) ?_
                    refine TL_want rfl rfl ?_
                    refine TL_pure rfl rfl rfl rfl (op_move rfl) ?_
                    refine TL_want rfl rfl ?_
                    refine TL_pure rfl rfl rfl rfl (op_neqB Try.underlying4 rfl rfl) ?_
                    refine TL_pure rfl rfl rfl rfl (op_pick_false rfl rfl) ?_
                    refine TL_keepH [1, 2, 6, 7, 10, 82] [11, 14, 15, 19, 20] rfl rfl rfl rfl (by rw [hF]; rfl) ?_
                    exact TL_cast _ (by rw [hq]; rfl) (hjj () trivial)
      · refine TL_split 49 rfl rfl rfl (fun hq => ?_) (fun hq => ?_)
        · refine TL_pass rfl rfl rfl rfl rfl rfl rfl ?_
          refine TL_pass rfl rfl rfl rfl rfl rfl rfl ?_
          refine TL_pass rfl rfl rfl rfl rfl rfl rfl ?_
          refine TL_pure rfl rfl rfl rfl (op_pick_true rfl rfl) ?_
          refine TL_keepH [1, 2, 6, 7, 8, 9, 10, 11, 53] [11, 14, 15, 16, 17, 18, 19, 20] rfl rfl rfl rfl (by rw [hF]; rfl) ?_
          exact TL_cast _ (by rw [hq]; rfl) (hjj () trivial)
        · refine TL_want rfl rfl ?_
          refine TL_pure rfl rfl rfl rfl (op_move rfl) ?_
          refine TL_want rfl rfl ?_
          refine TL_pure rfl rfl rfl rfl (op_move rfl) ?_
          refine TL_want rfl rfl ?_
          refine TL_pure rfl rfl rfl rfl (op_neqB Try.underlying4 rfl rfl) ?_
          refine TL_pure rfl rfl rfl rfl (op_pick_false rfl rfl) ?_
          refine TL_keepH [1, 2, 6, 7, 8, 9, 10, 11, 53] [11, 14, 15, 16, 17, 18, 19, 20] rfl rfl rfl rfl (by rw [hF]; rfl) ?_
          exact TL_cast _ (by rw [hq]; rfl) (hjj () trivial)
end Go.Mod
