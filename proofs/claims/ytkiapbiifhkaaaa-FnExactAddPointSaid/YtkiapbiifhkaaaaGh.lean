import Derived.Test.YtkiapbiifhkaaaaGg
namespace Go.Mod
open Go Go.AM Go.Proofs
set_option linter.unusedVariables false
set_option linter.unusedSimpArgs false
set_option maxRecDepth 100000
set_option maxHeartbeats 8000000
theorem c_laws_eqAnnotated (p0 : Annotated) (p1 : Annotated) (out : Bool) (hm : m_laws_eqAnnotated p0 p1 = some out) : ACall Try.prog 45 [.agg [.sl 2 (List.map Qa p0.Pre), .sl 2 (List.map Qa p0.Post), .sl 2 (List.map Qd p0.Code), .sl 2 (List.map Qc p0.Points)], .agg [.sl 2 (List.map Qa p1.Pre), .sl 2 (List.map Qa p1.Post), .sl 2 (List.map Qd p1.Code), .sl 2 (List.map Qc p1.Points)]] [] (.bool out) [] := by
 refine ACall.intro Try.func45 rfl Try.ntmps45 rfl (fun F hF => ?_)
 unfold m_laws_eqAnnotated at hm
 refine Qk ?_
 refine Qf ?_
 refine TL_box 11 rfl rfl rfl rfl rfl rfl rfl ?_
 refine TL_box 12 rfl rfl rfl rfl rfl rfl rfl ?_
 refine Qb rfl rfl rfl rfl (Qh rfl) ?_
 refine Qe ?_
 refine Qk ?_
 refine Qk ?_
 refine Qf ?_
 refine Qb rfl rfl rfl rfl (Qj fa69_0 rfl rfl) ?_
 refine Qb rfl rfl rfl rfl (Qg ag66 rfl rfl) ?_
 refine Qb rfl rfl rfl rfl (Qj fa69_0 rfl rfl) ?_
 refine Qb rfl rfl rfl rfl (Qg ag66 rfl rfl) ?_
 obtain ⟨r9, hr9, hm⟩ := Qw hm
 refine QA (ACall.F (F := F) (c_laws_eqTermS p0.Pre p1.Pre r9 hr9)) Try.call94 rfl rfl rfl rfl rfl ?_
 refine Qb rfl rfl rfl rfl (op_not rfl) ?_
 refine Qe ?_
 refine QF rfl (fun hq => ?_) (fun hq => ?_)
 ·replace hm := QT hq hm
  refine Qk ?_
  refine Qf ?_
  refine Qb rfl rfl rfl rfl (Qh rfl) ?_
  refine Qe ?_
  refine Qm [4] [] rfl rfl rfl rfl (by rw [hF]; rfl) ?_
  refine QH ?_
  obtain rfl := Qr hm
  refine ⟨[_], [], ⟨rfl, trivial⟩, ?_, rfl, rfl, rfl, rfl⟩
  rfl
 ·replace hm := QS hq hm
  refine QG ?_
  refine Qk ?_
  refine Qk ?_
  refine Qf ?_
  refine Qb rfl rfl rfl rfl (Qj fa69_1 rfl rfl) ?_
  refine Qb rfl rfl rfl rfl (Qg ag66 rfl rfl) ?_
  refine Qb rfl rfl rfl rfl (Qj fa69_1 rfl rfl) ?_
  refine Qb rfl rfl rfl rfl (Qg ag66 rfl rfl) ?_
  obtain ⟨r15, hr15, hm⟩ := Qw hm
  refine QA (ACall.F (F := F) (c_laws_eqTermS p0.Post p1.Post r15 hr15)) Try.call94 rfl rfl rfl rfl rfl ?_
  refine Qb rfl rfl rfl rfl (op_not rfl) ?_
  refine Qe ?_
  refine QF rfl (fun hq => ?_) (fun hq => ?_)
  ·replace hm := QT hq hm
   refine Qk ?_
   refine Qf ?_
   refine Qb rfl rfl rfl rfl (Qh rfl) ?_
   refine Qe ?_
   refine Qm [4] [] rfl rfl rfl rfl (by rw [hF]; rfl) ?_
   refine QH ?_
   obtain rfl := Qr hm
   refine ⟨[_], [], ⟨rfl, trivial⟩, ?_, rfl, rfl, rfl, rfl⟩
   rfl
  ·replace hm := QS hq hm
   refine QG ?_
   refine Qk ?_
   refine Qk ?_
   refine Qf ?_
   refine Qb rfl rfl rfl rfl (Qj fa69_2 rfl rfl) ?_
   refine Qb rfl rfl rfl rfl (Qg ag24 rfl rfl) ?_
   refine Qb rfl rfl rfl rfl (Qj fa69_2 rfl rfl) ?_
   refine Qb rfl rfl rfl rfl (Qg ag24 rfl rfl) ?_
   obtain ⟨r21, hr21, hm⟩ := Qw hm
   refine QA (ACall.F (F := F) (c_laws_eqInstrS p0.Code p1.Code r21 hr21)) Try.call27 rfl rfl rfl rfl rfl ?_
   refine Qb rfl rfl rfl rfl (op_not rfl) ?_
   refine Qe ?_
   refine QF rfl (fun hq => ?_) (fun hq => ?_)
   ·replace hm := QT hq hm
    refine Qk ?_
    refine Qf ?_
    refine Qb rfl rfl rfl rfl (Qh rfl) ?_
    refine Qe ?_
    refine Qm [4] [] rfl rfl rfl rfl (by rw [hF]; rfl) ?_
    refine QH ?_
    obtain rfl := Qr hm
    refine ⟨[_], [], ⟨rfl, trivial⟩, ?_, rfl, rfl, rfl, rfl⟩
    rfl
   ·replace hm := QS hq hm
    refine QG ?_
    refine Qk ?_
    refine Qk ?_
    refine Qf ?_
    refine Qb rfl rfl rfl rfl (Qj fa69_3 rfl rfl) ?_
    refine Qb rfl rfl rfl rfl (Qg ag67 rfl rfl) ?_
    refine Qb rfl rfl rfl rfl (Qj fa69_3 rfl rfl) ?_
    refine Qb rfl rfl rfl rfl (Qg ag67 rfl rfl) ?_
    obtain ⟨r27, hr27, hm⟩ := Qw hm
    refine QA (ACall.F (F := F) (c_laws_eqPointS p0.Points p1.Points r27 hr27)) Try.call95 rfl rfl rfl rfl rfl ?_
    refine Qb rfl rfl rfl rfl (op_not rfl) ?_
    refine Qe ?_
    refine QF rfl (fun hq => ?_) (fun hq => ?_)
    ·replace hm := QT hq hm
     refine Qk ?_
     refine Qf ?_
     refine Qb rfl rfl rfl rfl (Qh rfl) ?_
     refine Qe ?_
     refine Qm [4] [] rfl rfl rfl rfl (by rw [hF]; rfl) ?_
     refine QH ?_
     obtain rfl := Qr hm
     refine ⟨[_], [], ⟨rfl, trivial⟩, ?_, rfl, rfl, rfl, rfl⟩
     rfl
    ·replace hm := QS hq hm
     refine QG ?_
     refine Qk ?_
     refine Qf ?_
     refine Qb rfl rfl rfl rfl (Qh rfl) ?_
     refine Qe ?_
     refine Qm [4] [] rfl rfl rfl rfl (by rw [hF]; rfl) ?_
     refine QH ?_
     obtain rfl := Qr hm
     refine ⟨[_], [], ⟨rfl, trivial⟩, ?_, rfl, rfl, rfl, rfl⟩
     rfl
theorem c_laws_markInt64S (p0 : List Int) (p1 : Int) (out : Int × (List Int)) (hm : m_laws_markInt64S p0 p1 = some out) (E0 : TypeId) : ACall Try.prog 31 [.ow 0, .int .i64 p1] [(0, .arr ⟨true, true⟩ 1 E0 (List.map a_i64 p0))] (.int .i64 out.1) [(0, .arr ⟨true, true⟩ 1 E0 (List.map a_i64 out.2))] := by
 refine ACall.intro Try.func31 rfl Try.ntmps31 rfl (fun F hF => ?_)
 unfold m_laws_markInt64S at hm
 refine Qk ?_
 refine Qf ?_
 refine Qb rfl rfl rfl rfl (Qh rfl) ?_
 refine Qe ?_
 refine Qk ?_
 refine Qk ?_
 refine Qf ?_
 refine Qb rfl rfl rfl rfl (Qh rfl) ?_
 refine Qe ?_
 refine QV ?_
 refine Qm [0, 1, 5] [0] rfl rfl rfl rfl (by rw [hF]; rfl) ?_
 refine T_loop ?_
 obtain ⟨u0, hl0, hm⟩ := Qw hm
 refine TR_iter2 (m_laws_markInt64S_L0) (fun (s0 : (List Int) × Int × Int) => ⟨[(0, .ow 0), (1, .int .i64 s0.2.1), (5, .int .i64 s0.2.2)], [(0, .arr ⟨true, true⟩ 1 E0 (List.map a_i64 s0.1))]⟩) (fun u0 => .exit 0) (fun u0 => ⟨[(1, .int .i64 u0.1)], [(0, .arr ⟨true, true⟩ 1 E0 (List.map a_i64 u0.2))]⟩) (fun u0 => m_laws_markInt64S_A0 u0 = some out) hl0 hm (fun u0 hm => ?_) (fun hx0 s0 c0 hm hc0 => ?_)
 ·unfold m_laws_markInt64S_A0 at hm
  refine Qk ?_
  refine Qf ?_
  refine Qb rfl rfl rfl rfl (Qi rfl) ?_
  refine Qb rfl rfl rfl rfl (Qh rfl) ?_
  refine Qe ?_
  refine Qm [4] [0] rfl rfl rfl rfl (by rw [hF]; rfl) ?_
  refine QH ?_
  obtain rfl := Qr hm
  refine ⟨[_], [0], ⟨rfl, trivial⟩, ?_, rfl, rfl, rfl, rfl⟩
  rfl
 ·unfold m_laws_markInt64S_L0 at hm
  refine Qk ?_
  refine Qk ?_
  refine Qf ?_
  refine Qb rfl rfl rfl rfl (Qi rfl) ?_
  refine Qb rfl rfl rfl rfl (Qi rfl) ?_
  refine Qb rfl rfl rfl rfl (op_lenO Try.underlying26 rfl rfl (List.length_map _)) ?_
  refine Xg (fun _ _ _ hr => RelP.owLen (id := 0) rfl hr) (fun hlen8 => ?_)
  rw [List.length_map] at hlen8
  refine Qb rfl rfl rfl rfl (Xd rfl rfl) ?_
  refine Qe ?_
  refine QF rfl (fun hq => ?_) (fun hq => ?_)
  ·replace hm := QT hq hm
   refine QG ?_
   refine Qk ?_
   refine QV ?_
   refine Qk ?_
   refine Qf ?_
   refine Qb rfl rfl rfl rfl (Qi rfl) ?_
   refine Qb rfl rfl rfl rfl (Qi rfl) ?_
   refine Qb rfl rfl rfl rfl (Qi rfl) ?_
   obtain ⟨x15, hx15, hm⟩ := Qw hm
   refine Qb rfl rfl rfl rfl (op_indexO el26 rfl rfl rfl hx15) ?_
   refine TL_storeFT sz2 rfl rfl ((getI_spec hx15).2) (v' := s0.2.1) rfl rfl rfl rfl rfl rfl rfl rfl rfl ?_
   refine Qe ?_
   refine Qf ?_
   refine Qb rfl rfl rfl rfl (Qi rfl) ?_
   refine Qb rfl rfl rfl rfl (Xh rfl rfl) ?_
   refine Qb rfl rfl rfl rfl (Qh rfl) ?_
   refine Qe ?_
   refine Qf ?_
   refine Qb rfl rfl rfl rfl (Qi rfl) ?_
   refine Qb rfl rfl rfl rfl (Xh rfl rfl) ?_
   refine Qb rfl rfl rfl rfl (Qh rfl) ?_
   refine Qe ?_
   refine Q5 [0, 1, 5] [0] rfl rfl rfl rfl (by rw [hF]; rfl) ?_
   obtain rfl := Qr hm
   have hn := QM hc0
   exact hn _ rfl
  ·replace hm := QS hq hm
   refine Qm [1] [0] rfl rfl rfl rfl (by rw [hF]; rfl) ?_
   refine T_exit ?_
   obtain rfl := Qr hm
   have hn := QI hc0
   exact hx0 (s0.2.1, s0.1) hn
theorem c_laws_markTermS (p0 : List Term) (p1 : Int) (out : Int × (List Term)) (hm : m_laws_markTermS p0 p1 = some out) (E0 : TypeId) : ACall Try.prog 96 [.ow 0, .int .i64 p1] [(0, .arr ⟨true, true⟩ 2 E0 (List.map Qa p0))] (.int .i64 out.1) [(0, .arr ⟨true, true⟩ 2 E0 (List.map Qa out.2))] := by
 refine ACall.intro Try.func96 rfl Try.ntmps96 rfl (fun F hF => ?_)
 unfold m_laws_markTermS at hm
 refine Qk ?_
 refine Qf ?_
 refine Qb rfl rfl rfl rfl (Qh rfl) ?_
 refine Qe ?_
 refine Qk ?_
 refine Qk ?_
 refine Qf ?_
 refine Qb rfl rfl rfl rfl (Qh rfl) ?_
 refine Qe ?_
 refine QV ?_
 refine Qm [0, 1, 5] [0] rfl rfl rfl rfl (by rw [hF]; rfl) ?_
 refine T_loop ?_
 obtain ⟨u0, hl0, hm⟩ := Qw hm
 refine TR_iter2 (m_laws_markTermS_L0) (fun (s0 : (List Term) × Int × Int) => ⟨[(0, .ow 0), (1, .int .i64 s0.2.1), (5, .int .i64 s0.2.2)], [(0, .arr ⟨true, true⟩ 2 E0 (List.map Qa s0.1))]⟩) (fun u0 => .exit 0) (fun u0 => ⟨[(1, .int .i64 u0.1)], [(0, .arr ⟨true, true⟩ 2 E0 (List.map Qa u0.2))]⟩) (fun u0 => m_laws_markTermS_A0 u0 = some out) hl0 hm (fun u0 hm => ?_) (fun hx0 s0 c0 hm hc0 => ?_)
 ·unfold m_laws_markTermS_A0 at hm
  refine Qk ?_
  refine Qf ?_
  refine Qb rfl rfl rfl rfl (Qi rfl) ?_
  refine Qb rfl rfl rfl rfl (Qh rfl) ?_
  refine Qe ?_
  refine Qm [4] [0] rfl rfl rfl rfl (by rw [hF]; rfl) ?_
  refine QH ?_
  obtain rfl := Qr hm
  refine ⟨[_], [0], ⟨rfl, trivial⟩, ?_, rfl, rfl, rfl, rfl⟩
  rfl
 ·unfold m_laws_markTermS_L0 at hm
  refine Qk ?_
  refine Qk ?_
  refine Qf ?_
  refine Qb rfl rfl rfl rfl (Qi rfl) ?_
  refine Qb rfl rfl rfl rfl (Qi rfl) ?_
  refine Qb rfl rfl rfl rfl (op_lenO Try.underlying66 rfl rfl (List.length_map _)) ?_
  refine Xg (fun _ _ _ hr => RelP.owLen (id := 0) rfl hr) (fun hlen8 => ?_)
  rw [List.length_map] at hlen8
  refine Qb rfl rfl rfl rfl (Xd rfl rfl) ?_
  refine Qe ?_
  refine QF rfl (fun hq => ?_) (fun hq => ?_)
  ·replace hm := QT hq hm
   refine QG ?_
   refine Qk ?_
   refine QV ?_
   refine Qk ?_
   refine Qf ?_
   refine Qb rfl rfl rfl rfl (Qi rfl) ?_
   refine Qb rfl rfl rfl rfl (Qi rfl) ?_
   refine Qb rfl rfl rfl rfl (Qi rfl) ?_
   obtain ⟨x15, hx15, hm⟩ := Qw hm
   refine Qb rfl rfl rfl rfl (op_indexO el66 rfl rfl rfl hx15) ?_
   refine Qb rfl rfl rfl rfl (Qj fa184_0 rfl rfl) ?_
   refine TL_storeFT sz2 rfl rfl ((getI_spec hx15).2) (v' := (Term.mk s0.2.1 x15.Coeffs)) rfl rfl rfl rfl rfl rfl rfl rfl rfl ?_
   refine Qe ?_
   refine Qk ?_
   refine Qf ?_
   refine Qb rfl rfl rfl rfl (Qi rfl) ?_
   refine Qb rfl rfl rfl rfl (Xh rfl rfl) ?_
   refine Qb rfl rfl rfl rfl (Qh rfl) ?_
   refine Qe ?_
   refine Qf ?_
   refine Qb rfl rfl rfl rfl (Qi rfl) ?_
   refine Qb rfl rfl rfl rfl (Qi rfl) ?_
   obtain ⟨x21, hx21, hm⟩ := Qw hm
   refine Qb rfl rfl rfl rfl (op_indexO el66 rfl rfl rfl hx21) ?_
   refine Qb rfl rfl rfl rfl (Qj fa184_1 rfl rfl) ?_
   refine Qb rfl rfl rfl rfl (op_loadD1 ag26 rfl rfl ((getI_spec hx21).2) rfl rfl rfl rfl) ?_
   refine Qb rfl rfl rfl rfl (Qi rfl) ?_
   obtain ⟨r25, hr25, hm⟩ := Qw hm
   refine TL_callSub (id := 0) (i := (s0.2.2).toNat) (j := 1) (e' := Qa (Term.mk x21.Const r25.2)) (es' := List.map Qa ((s0.1.set ((s0.2.2).toNat) (Term.mk s0.2.1 x15.Coeffs)).set ((s0.2.2).toNat) (Term.mk x21.Const r25.2))) (fun E' => ACall.F (F := F) (c_laws_markInt64S x21.Coeffs (w64 (s0.2.1 + (1 : Int))) r25 hr25 E')) Try.call31 rfl rfl (get_map ((getI_spec hx21).2)) rfl rfl rfl rfl ⟨.inl ⟨rfl, rfl⟩, .inr ⟨rfl, rfl⟩, trivial⟩ rfl rfl rfl (List.map_set) rfl rfl rfl ?_
   refine Qb rfl rfl rfl rfl (Qh rfl) ?_
   refine Qe ?_
   refine Qf ?_
   refine Qb rfl rfl rfl rfl (Qi rfl) ?_
   refine Qb rfl rfl rfl rfl (Xh rfl rfl) ?_
   refine Qb rfl rfl rfl rfl (Qh rfl) ?_
   refine Qe ?_
   refine Q5 [0, 1, 5] [0] rfl rfl rfl rfl (by rw [hF]; rfl) ?_
   obtain rfl := Qr hm
   have hn := QM hc0
   exact hn _ rfl
  ·replace hm := QS hq hm
   refine Qm [1] [0] rfl rfl rfl rfl (by rw [hF]; rfl) ?_
   refine T_exit ?_
   obtain rfl := Qr hm
   have hn := QI hc0
   exact hx0 (s0.2.1, s0.1) hn
theorem c_laws_markInstrS (p0 : List Instr) (p1 : Int) (out : Int × (List Instr)) (hm : m_laws_markInstrS p0 p1 = some out) (E0 : TypeId) : ACall Try.prog 29 [.ow 0, .int .i64 p1] [(0, .arr ⟨true, true⟩ 2 E0 (List.map Qd p0))] (.int .i64 out.1) [(0, .arr ⟨true, true⟩ 2 E0 (List.map Qd out.2))] := by
 refine ACall.intro Try.func29 rfl Try.ntmps29 rfl (fun F hF => ?_)
 unfold m_laws_markInstrS at hm
 refine Qk ?_
 refine Qf ?_
 refine Qb rfl rfl rfl rfl (Qh rfl) ?_
 refine Qe ?_
 refine Qk ?_
 refine Qk ?_
 refine Qf ?_
 refine Qb rfl rfl rfl rfl (Qh rfl) ?_
 refine Qe ?_
 refine QV ?_
 refine Qm [0, 1, 5] [0] rfl rfl rfl rfl (by rw [hF]; rfl) ?_
 refine T_loop ?_
 obtain ⟨u0, hl0, hm⟩ := Qw hm
 refine TR_iter2 (m_laws_markInstrS_L0) (fun (s0 : (List Instr) × Int × Int) => ⟨[(0, .ow 0), (1, .int .i64 s0.2.1), (5, .int .i64 s0.2.2)], [(0, .arr ⟨true, true⟩ 2 E0 (List.map Qd s0.1))]⟩) (fun u0 => .exit 0) (fun u0 => ⟨[(1, .int .i64 u0.1)], [(0, .arr ⟨true, true⟩ 2 E0 (List.map Qd u0.2))]⟩) (fun u0 => m_laws_markInstrS_A0 u0 = some out) hl0 hm (fun u0 hm => ?_) (fun hx0 s0 c0 hm hc0 => ?_)
 ·unfold m_laws_markInstrS_A0 at hm
  refine Qk ?_
  refine Qf ?_
  refine Qb rfl rfl rfl rfl (Qi rfl) ?_
  refine Qb rfl rfl rfl rfl (Qh rfl) ?_
  refine Qe ?_
  refine Qm [4] [0] rfl rfl rfl rfl (by rw [hF]; rfl) ?_
  refine QH ?_
  obtain rfl := Qr hm
  refine ⟨[_], [0], ⟨rfl, trivial⟩, ?_, rfl, rfl, rfl, rfl⟩
  rfl
 ·unfold m_laws_markInstrS_L0 at hm
  refine Qk ?_
  refine Qk ?_
  refine Qf ?_
  refine Qb rfl rfl rfl rfl (Qi rfl) ?_
  refine Qb rfl rfl rfl rfl (Qi rfl) ?_
  refine Qb rfl rfl rfl rfl (op_lenO Try.underlying24 rfl rfl (List.length_map _)) ?_
  refine Xg (fun _ _ _ hr => RelP.owLen (id := 0) rfl hr) (fun hlen8 => ?_)
  rw [List.length_map] at hlen8
  refine Qb rfl rfl rfl rfl (Xd rfl rfl) ?_
  refine Qe ?_
  refine QF rfl (fun hq => ?_) (fun hq => ?_)
  ·replace hm := QT hq hm
   refine QG ?_
   refine Qk ?_
   refine QV ?_
   refine Qk ?_
   refine Qf ?_
   refine Qb rfl rfl rfl rfl (Qi rfl) ?_
   refine Qb rfl rfl rfl rfl (Qi rfl) ?_
   refine Qb rfl rfl rfl rfl (Qi rfl) ?_
   obtain ⟨x15, hx15, hm⟩ := Qw hm
   refine Qb rfl rfl rfl rfl (op_indexO el24 rfl rfl rfl hx15) ?_
   refine Qb rfl rfl rfl rfl (Qj fa40_0 rfl rfl) ?_
   refine TL_storeFT sz2 rfl rfl ((getI_spec hx15).2) (v' := (Instr.mk s0.2.1 x15.Arg)) rfl rfl rfl rfl rfl rfl rfl rfl rfl ?_
   refine Qe ?_
   refine Qk ?_
   refine Qf ?_
   refine Qb rfl rfl rfl rfl (Qi rfl) ?_
   refine Qb rfl rfl rfl rfl (Xh rfl rfl) ?_
   refine Qb rfl rfl rfl rfl (Qh rfl) ?_
   refine Qe ?_
   refine Qk ?_
   refine Qf ?_
   refine Qb rfl rfl rfl rfl (Qi rfl) ?_
   refine Qb rfl rfl rfl rfl (Qi rfl) ?_
   refine Qb rfl rfl rfl rfl (Qi rfl) ?_
   obtain ⟨x22, hx22, hm⟩ := Qw hm
   refine Qb rfl rfl rfl rfl (op_indexO el24 rfl rfl rfl hx22) ?_
   refine Qb rfl rfl rfl rfl (Qj fa40_1 rfl rfl) ?_
   refine TL_storeFT sz2 rfl rfl ((getI_spec hx22).2) (v' := (Instr.mk x22.Op (w64 (s0.2.1 + (1 : Int))))) rfl rfl rfl rfl rfl rfl rfl rfl rfl ?_
   refine Qe ?_
   refine Qf ?_
   refine Qb rfl rfl rfl rfl (Qi rfl) ?_
   refine Qb rfl rfl rfl rfl (Xh rfl rfl) ?_
   refine Qb rfl rfl rfl rfl (Qh rfl) ?_
   refine Qe ?_
   refine Qf ?_
   refine Qb rfl rfl rfl rfl (Qi rfl) ?_
   refine Qb rfl rfl rfl rfl (Xh rfl rfl) ?_
   refine Qb rfl rfl rfl rfl (Qh rfl) ?_
   refine Qe ?_
   refine Q5 [0, 1, 5] [0] rfl rfl rfl rfl (by rw [hF]; rfl) ?_
   obtain rfl := Qr hm
   have hn := QM hc0
   exact hn _ rfl
  ·replace hm := QS hq hm
   refine Qm [1] [0] rfl rfl rfl rfl (by rw [hF]; rfl) ?_
   refine T_exit ?_
   obtain rfl := Qr hm
   have hn := QI hc0
   exact hx0 (s0.2.1, s0.1) hn
theorem c_laws_markPointS (p0 : List Point) (p1 : Int) (out : Int × (List Point)) (hm : m_laws_markPointS p0 p1 = some out) (E0 : TypeId) : ACall Try.prog 97 [.ow 0, .int .i64 p1] [(0, .arr ⟨true, true⟩ 2 E0 (List.map Qc p0))] (.int .i64 out.1) [(0, .arr ⟨true, true⟩ 2 E0 (List.map Qc out.2))] := by
 refine ACall.intro Try.func97 rfl Try.ntmps97 rfl (fun F hF => ?_)
 unfold m_laws_markPointS at hm
 refine Qk ?_
 refine Qf ?_
 refine Qb rfl rfl rfl rfl (Qh rfl) ?_
 refine Qe ?_
 refine Qk ?_
 refine Qk ?_
 refine Qf ?_
 refine Qb rfl rfl rfl rfl (Qh rfl) ?_
 refine Qe ?_
 refine QV ?_
 refine Qm [0, 1, 5] [0] rfl rfl rfl rfl (by rw [hF]; rfl) ?_
 refine T_loop ?_
 obtain ⟨u0, hl0, hm⟩ := Qw hm
 refine TR_iter2 (m_laws_markPointS_L0) (fun (s0 : (List Point) × Int × Int) => ⟨[(0, .ow 0), (1, .int .i64 s0.2.1), (5, .int .i64 s0.2.2)], [(0, .arr ⟨true, true⟩ 2 E0 (List.map Qc s0.1))]⟩) (fun u0 => .exit 0) (fun u0 => ⟨[(1, .int .i64 u0.1)], [(0, .arr ⟨true, true⟩ 2 E0 (List.map Qc u0.2))]⟩) (fun u0 => m_laws_markPointS_A0 u0 = some out) hl0 hm (fun u0 hm => ?_) (fun hx0 s0 c0 hm hc0 => ?_)
 ·unfold m_laws_markPointS_A0 at hm
  refine Qk ?_
  refine Qf ?_
  refine Qb rfl rfl rfl rfl (Qi rfl) ?_
  refine Qb rfl rfl rfl rfl (Qh rfl) ?_
  refine Qe ?_
  refine Qm [4] [0] rfl rfl rfl rfl (by rw [hF]; rfl) ?_
  refine QH ?_
  obtain rfl := Qr hm
  refine ⟨[_], [0], ⟨rfl, trivial⟩, ?_, rfl, rfl, rfl, rfl⟩
  rfl
 ·unfold m_laws_markPointS_L0 at hm
  refine Qk ?_
  refine Qk ?_
  refine Qf ?_
  refine Qb rfl rfl rfl rfl (Qi rfl) ?_
  refine Qb rfl rfl rfl rfl (Qi rfl) ?_
  refine Qb rfl rfl rfl rfl (op_lenO Try.underlying67 rfl rfl (List.length_map _)) ?_
  refine Xg (fun _ _ _ hr => RelP.owLen (id := 0) rfl hr) (fun hlen8 => ?_)
  rw [List.length_map] at hlen8
  refine Qb rfl rfl rfl rfl (Xd rfl rfl) ?_
  refine Qe ?_
  refine QF rfl (fun hq => ?_) (fun hq => ?_)
  ·replace hm := QT hq hm
   refine QG ?_
   refine Qk ?_
   refine QV ?_
   refine Qk ?_
   refine Qf ?_
   refine Qb rfl rfl rfl rfl (Qi rfl) ?_
   refine Qb rfl rfl rfl rfl (Qi rfl) ?_
   refine Qb rfl rfl rfl rfl (Qi rfl) ?_
   obtain ⟨x15, hx15, hm⟩ := Qw hm
   refine Qb rfl rfl rfl rfl (op_indexO el67 rfl rfl rfl hx15) ?_
   refine Qb rfl rfl rfl rfl (Qj fa81_0 rfl rfl) ?_
   refine TL_storeFT sz2 rfl rfl ((getI_spec hx15).2) (v' := (Point.mk s0.2.1 x15.Facts)) rfl rfl rfl rfl rfl rfl rfl rfl rfl ?_
   refine Qe ?_
   refine Qk ?_
   refine Qf ?_
   refine Qb rfl rfl rfl rfl (Qi rfl) ?_
   refine Qb rfl rfl rfl rfl (Xh rfl rfl) ?_
   refine Qb rfl rfl rfl rfl (Qh rfl) ?_
   refine Qe ?_
   refine Qf ?_
   refine Qb rfl rfl rfl rfl (Qi rfl) ?_
   refine Qb rfl rfl rfl rfl (Qi rfl) ?_
   obtain ⟨x21, hx21, hm⟩ := Qw hm
   refine Qb rfl rfl rfl rfl (op_indexO el67 rfl rfl rfl hx21) ?_
   refine Qb rfl rfl rfl rfl (Qj fa81_1 rfl rfl) ?_
   refine Qb rfl rfl rfl rfl (op_loadD1 ag66 rfl rfl ((getI_spec hx21).2) rfl rfl rfl rfl) ?_
   refine Qb rfl rfl rfl rfl (Qi rfl) ?_
   obtain ⟨r25, hr25, hm⟩ := Qw hm
   refine TL_callSub (id := 0) (i := (s0.2.2).toNat) (j := 1) (e' := Qc (Point.mk x21.At r25.2)) (es' := List.map Qc ((s0.1.set ((s0.2.2).toNat) (Point.mk s0.2.1 x15.Facts)).set ((s0.2.2).toNat) (Point.mk x21.At r25.2))) (fun E' => ACall.F (F := F) (c_laws_markTermS x21.Facts (w64 (s0.2.1 + (1 : Int))) r25 hr25 E')) Try.call96 rfl rfl (get_map ((getI_spec hx21).2)) rfl rfl rfl rfl ⟨.inl ⟨rfl, rfl⟩, .inr ⟨rfl, rfl⟩, trivial⟩ rfl rfl rfl (List.map_set) rfl rfl rfl ?_
   refine Qb rfl rfl rfl rfl (Qh rfl) ?_
   refine Qe ?_
   refine Qf ?_
   refine Qb rfl rfl rfl rfl (Qi rfl) ?_
   refine Qb rfl rfl rfl rfl (Xh rfl rfl) ?_
   refine Qb rfl rfl rfl rfl (Qh rfl) ?_
   refine Qe ?_
   refine Q5 [0, 1, 5] [0] rfl rfl rfl rfl (by rw [hF]; rfl) ?_
   obtain rfl := Qr hm
   have hn := QM hc0
   exact hn _ rfl
  ·replace hm := QS hq hm
   refine Qm [1] [0] rfl rfl rfl rfl (by rw [hF]; rfl) ?_
   refine T_exit ?_
   obtain rfl := Qr hm
   have hn := QI hc0
   exact hx0 (s0.2.1, s0.1) hn
theorem c_laws_markAnnotated (p0 : Annotated) (p1 : Int) (out : Int × (List Term) × (List Term) × (List Instr) × (List Point)) (hm : Xp p0 p1 = some out) (E0 : TypeId) (E1 : TypeId) (E2 : TypeId) (E3 : TypeId) : ACall Try.prog 46 [.agg [.ow 0, .ow 1, .ow 2, .ow 3], .int .i64 p1] [(0, .arr ⟨true, true⟩ 2 E0 (List.map Qa p0.Pre)), (1, .arr ⟨true, true⟩ 2 E1 (List.map Qa p0.Post)), (2, .arr ⟨true, true⟩ 2 E2 (List.map Qd p0.Code)), (3, .arr ⟨true, true⟩ 2 E3 (List.map Qc p0.Points))] (.int .i64 out.1) [(0, .arr ⟨true, true⟩ 2 E0 (List.map Qa out.2.1)), (1, .arr ⟨true, true⟩ 2 E1 (List.map Qa out.2.2.1)), (2, .arr ⟨true, true⟩ 2 E2 (List.map Qd out.2.2.2.1)), (3, .arr ⟨true, true⟩ 2 E3 (List.map Qc out.2.2.2.2))] := by
 refine ACall.intro Try.func46 rfl Try.ntmps46 rfl (fun F hF => ?_)
 unfold Xp at hm
 refine Qk ?_
 refine Qf ?_
 refine TL_box 11 rfl rfl rfl rfl rfl rfl rfl ?_
 refine Qb rfl rfl rfl rfl (Qh rfl) ?_
 refine Qe ?_
 refine Qk ?_
 refine Qf ?_
 refine Qb rfl rfl rfl rfl (Qj fa69_0 rfl rfl) ?_
 refine Qb rfl rfl rfl rfl (Qg ag66 rfl rfl) ?_
 refine Qb rfl rfl rfl rfl (Qi rfl) ?_
 obtain ⟨r8, hr8, hm⟩ := Qw hm
 refine TL_call [(0, 0)] [] [] (ACall.F (F := F) (c_laws_markTermS p0.Pre p1 r8 hr8 _)) Try.call96 rfl rfl rfl rfl rfl ⟨rfl, trivial⟩ rfl rfl rfl rfl rfl rfl rfl rfl rfl rfl rfl ?_
 refine Qb rfl rfl rfl rfl (Qh rfl) ?_
 refine Qe ?_
 refine Qk ?_
 refine Qf ?_
 refine Qb rfl rfl rfl rfl (Qj fa69_1 rfl rfl) ?_
 refine Qb rfl rfl rfl rfl (Qg ag66 rfl rfl) ?_
 refine Qb rfl rfl rfl rfl (Qi rfl) ?_
 obtain ⟨r12, hr12, hm⟩ := Qw hm
 refine TL_call [(0, 1)] [] [] (ACall.F (F := F) (c_laws_markTermS p0.Post r8.1 r12 hr12 _)) Try.call96 rfl rfl rfl rfl rfl ⟨rfl, trivial⟩ rfl rfl rfl rfl rfl rfl rfl rfl rfl rfl rfl ?_
 refine Qb rfl rfl rfl rfl (Qh rfl) ?_
 refine Qe ?_
 refine Qk ?_
 refine Qf ?_
 refine Qb rfl rfl rfl rfl (Qj fa69_2 rfl rfl) ?_
 refine Qb rfl rfl rfl rfl (Qg ag24 rfl rfl) ?_
 refine Qb rfl rfl rfl rfl (Qi rfl) ?_
 obtain ⟨r16, hr16, hm⟩ := Qw hm
 refine TL_call [(0, 2)] [] [] (ACall.F (F := F) (c_laws_markInstrS p0.Code r12.1 r16 hr16 _)) Try.call29 rfl rfl rfl rfl rfl ⟨rfl, trivial⟩ rfl rfl rfl rfl rfl rfl rfl rfl rfl rfl rfl ?_
 refine Qb rfl rfl rfl rfl (Qh rfl) ?_
 refine Qe ?_
 refine Qk ?_
 refine Qf ?_
 refine Qb rfl rfl rfl rfl (Qj fa69_3 rfl rfl) ?_
 refine Qb rfl rfl rfl rfl (Qg ag67 rfl rfl) ?_
 refine Qb rfl rfl rfl rfl (Qi rfl) ?_
 obtain ⟨r20, hr20, hm⟩ := Qw hm
 refine TL_call [(0, 3)] [] [] (ACall.F (F := F) (c_laws_markPointS p0.Points r16.1 r20 hr20 _)) Try.call97 rfl rfl rfl rfl rfl ⟨rfl, trivial⟩ rfl rfl rfl rfl rfl rfl rfl rfl rfl rfl rfl ?_
 refine Qb rfl rfl rfl rfl (Qh rfl) ?_
 refine Qe ?_
 refine Qk ?_
 refine Qf ?_
 refine Qb rfl rfl rfl rfl (Qi rfl) ?_
 refine Qb rfl rfl rfl rfl (Qh rfl) ?_
 refine Qe ?_
 refine Qm [4] [0, 1, 2, 3] rfl rfl rfl rfl (by rw [hF]; rfl) ?_
 refine QH ?_
 obtain rfl := Qr hm
 refine ⟨[_], [0, 1, 2, 3], ⟨rfl, trivial⟩, ?_, rfl, rfl, rfl, rfl⟩
 rfl
theorem c_laws_markPoint (p0 : Point) (p1 : Int) (out : Int × (List Term)) (hm : m_laws_markPoint p0 p1 = some out) (E0 : TypeId) : ACall Try.prog 55 [.agg [.int .i64 p0.At, .ow 0], .int .i64 p1] [(0, .arr ⟨true, true⟩ 2 E0 (List.map Qa p0.Facts))] (.int .i64 out.1) [(0, .arr ⟨true, true⟩ 2 E0 (List.map Qa out.2))] := by
 refine ACall.intro Try.func55 rfl Try.ntmps55 rfl (fun F hF => ?_)
 unfold m_laws_markPoint at hm
 refine Qk ?_
 refine Qf ?_
 refine TL_box 11 rfl rfl rfl rfl rfl rfl rfl ?_
 refine Qb rfl rfl rfl rfl (Qh rfl) ?_
 refine Qe ?_
 refine Qk ?_
 refine Qf ?_
 refine Qb rfl rfl rfl rfl (Qj fa81_1 rfl rfl) ?_
 refine Qb rfl rfl rfl rfl (Qg ag66 rfl rfl) ?_
 refine Qb rfl rfl rfl rfl (Qi rfl) ?_
 obtain ⟨r8, hr8, hm⟩ := Qw hm
 refine TL_call [(0, 0)] [] [] (ACall.F (F := F) (c_laws_markTermS p0.Facts p1 r8 hr8 _)) Try.call96 rfl rfl rfl rfl rfl ⟨rfl, trivial⟩ rfl rfl rfl rfl rfl rfl rfl rfl rfl rfl rfl ?_
 refine Qb rfl rfl rfl rfl (Qh rfl) ?_
 refine Qe ?_
 refine Qk ?_
 refine Qf ?_
 refine Qb rfl rfl rfl rfl (Qi rfl) ?_
 refine Qb rfl rfl rfl rfl (Qh rfl) ?_
 refine Qe ?_
 refine Qm [4] [0] rfl rfl rfl rfl (by rw [hF]; rfl) ?_
 refine QH ?_
 obtain rfl := Qr hm
 refine ⟨[_], [0], ⟨rfl, trivial⟩, ?_, rfl, rfl, rfl, rfl⟩
 rfl
theorem c_laws_heldInt64S (p0 : List Int) (p1 : Int) (out : Int) (hm : m_laws_heldInt64S p0 p1 = some out) : ACall Try.prog 32 [.sl 1 (List.map a_i64 p0), .int .i64 p1] [] (.int .i64 out) [] := by
 refine ACall.intro Try.func32 rfl Try.ntmps32 rfl (fun F hF => ?_)
 unfold m_laws_heldInt64S at hm
 refine Qk ?_
 refine Qf ?_
 refine Qb rfl rfl rfl rfl (Qh rfl) ?_
 refine Qe ?_
 refine Qk ?_
 refine Qk ?_
 refine Qf ?_
 refine Qb rfl rfl rfl rfl (Qh rfl) ?_
 refine Qe ?_
 refine QV ?_
 refine Qm [0, 1, 5] [] rfl rfl rfl rfl (by rw [hF]; rfl) ?_
 refine T_loop ?_
 obtain ⟨u0, hl0, hm⟩ := Qw hm
 refine TR_iter2 (m_laws_heldInt64S_L0 p0) (fun (s0 : Int × Int) => ⟨[(0, .sl 1 (List.map a_i64 p0)), (1, .int .i64 s0.1), (5, .int .i64 s0.2)], []⟩) (fun u0 => match u0 with | .inl u0 => .exit 0 | .inr u0 => .ret) (fun u0 => match u0 with | .inl u0 => ⟨[(1, .int .i64 u0)], []⟩ | .inr u0 => ⟨[(4, .int .i64 u0)], []⟩) (fun u0 => m_laws_heldInt64S_A0 u0 = some out) hl0 hm (fun u0 hm => ?_) (fun hx0 s0 c0 hm hc0 => ?_)
 ·rcases u0 with u0 | u0
  ·unfold m_laws_heldInt64S_A0 at hm
   refine Qk ?_
   refine Qf ?_
   refine Qb rfl rfl rfl rfl (Qi rfl) ?_
   refine Qb rfl rfl rfl rfl (Qh rfl) ?_
   refine Qe ?_
   refine Qm [4] [] rfl rfl rfl rfl (by rw [hF]; rfl) ?_
   refine QH ?_
   obtain rfl := Qr hm
   refine ⟨[_], [], ⟨rfl, trivial⟩, ?_, rfl, rfl, rfl, rfl⟩
   rfl
  ·unfold m_laws_heldInt64S_A0 at hm
   obtain rfl := Qr hm
   refine ⟨[_], [], ⟨rfl, trivial⟩, ?_, rfl, rfl, rfl, rfl⟩
   rfl
 ·unfold m_laws_heldInt64S_L0 at hm
  refine Qk ?_
  refine Qk ?_
  refine Qf ?_
  refine Qb rfl rfl rfl rfl (Qi rfl) ?_
  refine Qb rfl rfl rfl rfl (Qi rfl) ?_
  refine Qb rfl rfl rfl rfl (Q8 Try.underlying26 rfl (List.length_map _)) ?_
  refine Xg (fun _ _ _ hr => RelP.slLen (i := 7) rfl hr) (fun hlen8 => ?_)
  rw [List.length_map] at hlen8
  refine Qb rfl rfl rfl rfl (Xd rfl rfl) ?_
  refine Qe ?_
  refine QF rfl (fun hq => ?_) (fun hq => ?_)
  ·replace hm := QT hq hm
   refine QG ?_
   refine Qk ?_
   refine QV ?_
   refine Qk ?_
   refine Qk ?_
   refine Qf ?_
   refine Qb rfl rfl rfl rfl (Qi rfl) ?_
   refine Qb rfl rfl rfl rfl (Qi rfl) ?_
   obtain ⟨x14, hx14, hm⟩ := Qw hm
   refine Qb rfl rfl rfl rfl (QU el26 rfl rfl hx14 rfl) ?_
   refine Qb rfl rfl rfl rfl (Qg ag2 rfl rfl) ?_
   refine Qb rfl rfl rfl rfl (Qi rfl) ?_
   refine Qb rfl rfl rfl rfl (op_neq rfl rfl) ?_
   refine Qe ?_
   refine QF rfl (fun hq => ?_) (fun hq => ?_)
   ·replace hm := QT hq hm
    refine Qk ?_
    refine Qf ?_
    refine Qb rfl rfl rfl rfl (Qh rfl) ?_
    refine Qe ?_
    refine Qm [4] [] rfl rfl rfl rfl (by rw [hF]; rfl) ?_
    refine QH ?_
    obtain rfl := Qr hm
    have hn := QI hc0
    exact hx0 (.inr (-1 : Int)) hn
   ·replace hm := QS hq hm
    refine QG ?_
    refine Qf ?_
    refine Qb rfl rfl rfl rfl (Qi rfl) ?_
    refine Qb rfl rfl rfl rfl (Xh rfl rfl) ?_
    refine Qb rfl rfl rfl rfl (Qh rfl) ?_
    refine Qe ?_
    refine Qf ?_
    refine Qb rfl rfl rfl rfl (Qi rfl) ?_
    refine Qb rfl rfl rfl rfl (Xh rfl rfl) ?_
    refine Qb rfl rfl rfl rfl (Qh rfl) ?_
    refine Qe ?_
    refine Q5 [0, 1, 5] [] rfl rfl rfl rfl (by rw [hF]; rfl) ?_
    obtain rfl := Qr hm
    have hn := QM hc0
    exact hn _ rfl
  ·replace hm := QS hq hm
   refine Qm [1] [] rfl rfl rfl rfl (by rw [hF]; rfl) ?_
   refine T_exit ?_
   obtain rfl := Qr hm
   have hn := QI hc0
   exact hx0 (.inl s0.1) hn
theorem c_laws_heldTermS (p0 : List Term) (p1 : Int) (out : Int) (hm : m_laws_heldTermS p0 p1 = some out) : ACall Try.prog 98 [.sl 2 (List.map Qa p0), .int .i64 p1] [] (.int .i64 out) [] := by
 refine ACall.intro Try.func98 rfl Try.ntmps98 rfl (fun F hF => ?_)
 unfold m_laws_heldTermS at hm
 refine Qk ?_
 refine Qf ?_
 refine Qb rfl rfl rfl rfl (Qh rfl) ?_
 refine Qe ?_
 refine Qk ?_
 refine Qk ?_
 refine Qf ?_
 refine Qb rfl rfl rfl rfl (Qh rfl) ?_
 refine Qe ?_
 refine QV ?_
 refine Qm [0, 1, 5] [] rfl rfl rfl rfl (by rw [hF]; rfl) ?_
 refine T_loop ?_
 obtain ⟨u0, hl0, hm⟩ := Qw hm
 refine TR_iter2 (m_laws_heldTermS_L0 p0) (fun (s0 : Int × Int) => ⟨[(0, .sl 2 (List.map Qa p0)), (1, .int .i64 s0.1), (5, .int .i64 s0.2)], []⟩) (fun u0 => match u0 with | .inl u0 => .exit 0 | .inr u0 => .ret) (fun u0 => match u0 with | .inl u0 => ⟨[(1, .int .i64 u0)], []⟩ | .inr u0 => ⟨[(4, .int .i64 u0)], []⟩) (fun u0 => m_laws_heldTermS_A0 u0 = some out) hl0 hm (fun u0 hm => ?_) (fun hx0 s0 c0 hm hc0 => ?_)
 ·rcases u0 with u0 | u0
  ·unfold m_laws_heldTermS_A0 at hm
   refine Qk ?_
   refine Qf ?_
   refine Qb rfl rfl rfl rfl (Qi rfl) ?_
   refine Qb rfl rfl rfl rfl (Qh rfl) ?_
   refine Qe ?_
   refine Qm [4] [] rfl rfl rfl rfl (by rw [hF]; rfl) ?_
   refine QH ?_
   obtain rfl := Qr hm
   refine ⟨[_], [], ⟨rfl, trivial⟩, ?_, rfl, rfl, rfl, rfl⟩
   rfl
  ·unfold m_laws_heldTermS_A0 at hm
   obtain rfl := Qr hm
   refine ⟨[_], [], ⟨rfl, trivial⟩, ?_, rfl, rfl, rfl, rfl⟩
   rfl
 ·unfold m_laws_heldTermS_L0 at hm
  refine Qk ?_
  refine Qk ?_
  refine Qf ?_
  refine Qb rfl rfl rfl rfl (Qi rfl) ?_
  refine Qb rfl rfl rfl rfl (Qi rfl) ?_
  refine Qb rfl rfl rfl rfl (Q8 Try.underlying66 rfl (List.length_map _)) ?_
  refine Xg (fun _ _ _ hr => RelP.slLen (i := 7) rfl hr) (fun hlen8 => ?_)
  rw [List.length_map] at hlen8
  refine Qb rfl rfl rfl rfl (Xd rfl rfl) ?_
  refine Qe ?_
  refine QF rfl (fun hq => ?_) (fun hq => ?_)
  ·replace hm := QT hq hm
   refine QG ?_
   refine Qk ?_
   refine QV ?_
   refine Qk ?_
   refine Qk ?_
   refine Qf ?_
   refine Qb rfl rfl rfl rfl (Qi rfl) ?_
   refine Qb rfl rfl rfl rfl (Qi rfl) ?_
   obtain ⟨x14, hx14, hm⟩ := Qw hm
   refine Qb rfl rfl rfl rfl (QU el66 rfl rfl hx14 rfl) ?_
   refine Qb rfl rfl rfl rfl (QY (n := 1) fa184_0 rfl rfl rfl) ?_
   refine Qb rfl rfl rfl rfl (Qg ag2 rfl rfl) ?_
   refine Qb rfl rfl rfl rfl (Qi rfl) ?_
   refine Qb rfl rfl rfl rfl (op_neq rfl rfl) ?_
   refine Qe ?_
   refine QF rfl (fun hq => ?_) (fun hq => ?_)
   ·replace hm := QT hq hm
    refine Qk ?_
    refine Qf ?_
    refine Qb rfl rfl rfl rfl (Qh rfl) ?_
    refine Qe ?_
    refine Qm [4] [] rfl rfl rfl rfl (by rw [hF]; rfl) ?_
    refine QH ?_
    obtain rfl := Qr hm
    have hn := QI hc0
    exact hx0 (.inr (-1 : Int)) hn
   ·replace hm := QS hq hm
    refine QG ?_
    refine Qk ?_
    refine Qf ?_
    refine Qb rfl rfl rfl rfl (Qi rfl) ?_
    refine Qb rfl rfl rfl rfl (Xh rfl rfl) ?_
    refine Qb rfl rfl rfl rfl (Qh rfl) ?_
    refine Qe ?_
    refine Qk ?_
    refine Qf ?_
    refine Qb rfl rfl rfl rfl (Qi rfl) ?_
    refine Qb rfl rfl rfl rfl (Qi rfl) ?_
    refine Qb rfl rfl rfl rfl (QU el66 rfl rfl hx14 rfl) ?_
    refine Qb rfl rfl rfl rfl (Qj fa184_1 rfl rfl) ?_
    refine Qb rfl rfl rfl rfl (Qg ag26 rfl rfl) ?_
    refine Qb rfl rfl rfl rfl (Qi rfl) ?_
    obtain ⟨r27, hr27, hm⟩ := Qw hm
    refine QA (ACall.F (F := F) (c_laws_heldInt64S x14.Coeffs (w64 (s0.1 + (1 : Int))) r27 hr27)) Try.call32 rfl rfl rfl rfl rfl ?_
    refine Qb rfl rfl rfl rfl (Qh rfl) ?_
    refine Qe ?_
    refine Qk ?_
    refine Qf ?_
    refine Qb rfl rfl rfl rfl (Qi rfl) ?_
    refine Qb rfl rfl rfl rfl (Xd rfl rfl) ?_
    refine Qe ?_
    refine QF rfl (fun hq => ?_) (fun hq => ?_)
    ·replace hm := QT hq hm
     refine Qk ?_
     refine Qf ?_
     refine Qb rfl rfl rfl rfl (Qh rfl) ?_
     refine Qe ?_
     refine Qm [4] [] rfl rfl rfl rfl (by rw [hF]; rfl) ?_
     refine QH ?_
     obtain rfl := Qr hm
     have hn := QI hc0
     exact hx0 (.inr (-1 : Int)) hn
    ·replace hm := QS hq hm
     refine QG ?_
     refine Qf ?_
     refine Qb rfl rfl rfl rfl (Qi rfl) ?_
     refine Qb rfl rfl rfl rfl (Xh rfl rfl) ?_
     refine Qb rfl rfl rfl rfl (Qh rfl) ?_
     refine Qe ?_
     refine Q5 [0, 1, 5] [] rfl rfl rfl rfl (by rw [hF]; rfl) ?_
     obtain rfl := Qr hm
     have hn := QM hc0
     exact hn _ rfl
  ·replace hm := QS hq hm
   refine Qm [1] [] rfl rfl rfl rfl (by rw [hF]; rfl) ?_
   refine T_exit ?_
   obtain rfl := Qr hm
   have hn := QI hc0
   exact hx0 (.inl s0.1) hn
theorem c_laws_heldInstrS (p0 : List Instr) (p1 : Int) (out : Int) (hm : m_laws_heldInstrS p0 p1 = some out) : ACall Try.prog 99 [.sl 2 (List.map Qd p0), .int .i64 p1] [] (.int .i64 out) [] := by
 refine ACall.intro Try.func99 rfl Try.ntmps99 rfl (fun F hF => ?_)
 unfold m_laws_heldInstrS at hm
 refine Qk ?_
 refine Qf ?_
 refine Qb rfl rfl rfl rfl (Qh rfl) ?_
 refine Qe ?_
 refine Qk ?_
 refine Qk ?_
 refine Qf ?_
 refine Qb rfl rfl rfl rfl (Qh rfl) ?_
 refine Qe ?_
 refine QV ?_
 refine Qm [0, 1, 5] [] rfl rfl rfl rfl (by rw [hF]; rfl) ?_
 refine T_loop ?_
 obtain ⟨u0, hl0, hm⟩ := Qw hm
 refine TR_iter2 (m_laws_heldInstrS_L0 p0) (fun (s0 : Int × Int) => ⟨[(0, .sl 2 (List.map Qd p0)), (1, .int .i64 s0.1), (5, .int .i64 s0.2)], []⟩) (fun u0 => match u0 with | .inl u0 => .exit 0 | .inr u0 => .ret) (fun u0 => match u0 with | .inl u0 => ⟨[(1, .int .i64 u0)], []⟩ | .inr u0 => ⟨[(4, .int .i64 u0)], []⟩) (fun u0 => m_laws_heldInstrS_A0 u0 = some out) hl0 hm (fun u0 hm => ?_) (fun hx0 s0 c0 hm hc0 => ?_)
 ·rcases u0 with u0 | u0
  ·unfold m_laws_heldInstrS_A0 at hm
   refine Qk ?_
   refine Qf ?_
   refine Qb rfl rfl rfl rfl (Qi rfl) ?_
   refine Qb rfl rfl rfl rfl (Qh rfl) ?_
   refine Qe ?_
   refine Qm [4] [] rfl rfl rfl rfl (by rw [hF]; rfl) ?_
   refine QH ?_
   obtain rfl := Qr hm
   refine ⟨[_], [], ⟨rfl, trivial⟩, ?_, rfl, rfl, rfl, rfl⟩
   rfl
  ·unfold m_laws_heldInstrS_A0 at hm
   obtain rfl := Qr hm
   refine ⟨[_], [], ⟨rfl, trivial⟩, ?_, rfl, rfl, rfl, rfl⟩
   rfl
 ·unfold m_laws_heldInstrS_L0 at hm
  refine Qk ?_
  refine Qk ?_
  refine Qf ?_
  refine Qb rfl rfl rfl rfl (Qi rfl) ?_
  refine Qb rfl rfl rfl rfl (Qi rfl) ?_
  refine Qb rfl rfl rfl rfl (Q8 Try.underlying24 rfl (List.length_map _)) ?_
  refine Xg (fun _ _ _ hr => RelP.slLen (i := 7) rfl hr) (fun hlen8 => ?_)
  rw [List.length_map] at hlen8
  refine Qb rfl rfl rfl rfl (Xd rfl rfl) ?_
  refine Qe ?_
  refine QF rfl (fun hq => ?_) (fun hq => ?_)
  ·replace hm := QT hq hm
   refine QG ?_
   refine Qk ?_
   refine QV ?_
   refine Qk ?_
   refine Qk ?_
   refine Qf ?_
   refine Qb rfl rfl rfl rfl (Qi rfl) ?_
   refine Qb rfl rfl rfl rfl (Qi rfl) ?_
   obtain ⟨x14, hx14, hm⟩ := Qw hm
   refine Qb rfl rfl rfl rfl (QU el24 rfl rfl hx14 rfl) ?_
   refine Qb rfl rfl rfl rfl (QY (n := 1) fa40_0 rfl rfl rfl) ?_
   refine Qb rfl rfl rfl rfl (Qg ag2 rfl rfl) ?_
   refine Qb rfl rfl rfl rfl (Qi rfl) ?_
   refine Qb rfl rfl rfl rfl (op_neq rfl rfl) ?_
   refine Qe ?_
   refine QF rfl (fun hq => ?_) (fun hq => ?_)
   ·replace hm := QT hq hm
    refine Qk ?_
    refine Qf ?_
    refine Qb rfl rfl rfl rfl (Qh rfl) ?_
    refine Qe ?_
    refine Qm [4] [] rfl rfl rfl rfl (by rw [hF]; rfl) ?_
    refine QH ?_
    obtain rfl := Qr hm
    have hn := QI hc0
    exact hx0 (.inr (-1 : Int)) hn
   ·replace hm := QS hq hm
    refine QG ?_
    refine Qk ?_
    refine Qf ?_
    refine Qb rfl rfl rfl rfl (Qi rfl) ?_
    refine Qb rfl rfl rfl rfl (Xh rfl rfl) ?_
    refine Qb rfl rfl rfl rfl (Qh rfl) ?_
    refine Qe ?_
    refine Qk ?_
    refine Qk ?_
    refine Qf ?_
    refine Qb rfl rfl rfl rfl (Qi rfl) ?_
    refine Qb rfl rfl rfl rfl (Qi rfl) ?_
    refine Qb rfl rfl rfl rfl (QU el24 rfl rfl hx14 rfl) ?_
    refine Qb rfl rfl rfl rfl (Qj fa40_1 rfl rfl) ?_
    refine Qb rfl rfl rfl rfl (Qg ag2 rfl rfl) ?_
    refine Qb rfl rfl rfl rfl (Qi rfl) ?_
    refine Qb rfl rfl rfl rfl (op_neq rfl rfl) ?_
    refine Qe ?_
    refine QF rfl (fun hq => ?_) (fun hq => ?_)
    ·replace hm := QT hq hm
     refine Qk ?_
     refine Qf ?_
     refine Qb rfl rfl rfl rfl (Qh rfl) ?_
     refine Qe ?_
     refine Qm [4] [] rfl rfl rfl rfl (by rw [hF]; rfl) ?_
     refine QH ?_
     obtain rfl := Qr hm
     have hn := QI hc0
     exact hx0 (.inr (-1 : Int)) hn
    ·replace hm := QS hq hm
     refine QG ?_
     refine Qf ?_
     refine Qb rfl rfl rfl rfl (Qi rfl) ?_
     refine Qb rfl rfl rfl rfl (Xh rfl rfl) ?_
     refine Qb rfl rfl rfl rfl (Qh rfl) ?_
     refine Qe ?_
     refine Qf ?_
     refine Qb rfl rfl rfl rfl (Qi rfl) ?_
     refine Qb rfl rfl rfl rfl (Xh rfl rfl) ?_
     refine Qb rfl rfl rfl rfl (Qh rfl) ?_
     refine Qe ?_
     refine Q5 [0, 1, 5] [] rfl rfl rfl rfl (by rw [hF]; rfl) ?_
     obtain rfl := Qr hm
     have hn := QM hc0
     exact hn _ rfl
  ·replace hm := QS hq hm
   refine Qm [1] [] rfl rfl rfl rfl (by rw [hF]; rfl) ?_
   refine T_exit ?_
   obtain rfl := Qr hm
   have hn := QI hc0
   exact hx0 (.inl s0.1) hn
theorem c_laws_heldPointS (p0 : List Point) (p1 : Int) (out : Int) (hm : m_laws_heldPointS p0 p1 = some out) : ACall Try.prog 100 [.sl 2 (List.map Qc p0), .int .i64 p1] [] (.int .i64 out) [] := by
 refine ACall.intro Try.func100 rfl Try.ntmps100 rfl (fun F hF => ?_)
 unfold m_laws_heldPointS at hm
 refine Qk ?_
 refine Qf ?_
 refine Qb rfl rfl rfl rfl (Qh rfl) ?_
 refine Qe ?_
 refine Qk ?_
 refine Qk ?_
 refine Qf ?_
 refine Qb rfl rfl rfl rfl (Qh rfl) ?_
 refine Qe ?_
 refine QV ?_
 refine Qm [0, 1, 5] [] rfl rfl rfl rfl (by rw [hF]; rfl) ?_
 refine T_loop ?_
 obtain ⟨u0, hl0, hm⟩ := Qw hm
 refine TR_iter2 (m_laws_heldPointS_L0 p0) (fun (s0 : Int × Int) => ⟨[(0, .sl 2 (List.map Qc p0)), (1, .int .i64 s0.1), (5, .int .i64 s0.2)], []⟩) (fun u0 => match u0 with | .inl u0 => .exit 0 | .inr u0 => .ret) (fun u0 => match u0 with | .inl u0 => ⟨[(1, .int .i64 u0)], []⟩ | .inr u0 => ⟨[(4, .int .i64 u0)], []⟩) (fun u0 => m_laws_heldPointS_A0 u0 = some out) hl0 hm (fun u0 hm => ?_) (fun hx0 s0 c0 hm hc0 => ?_)
 ·rcases u0 with u0 | u0
  ·unfold m_laws_heldPointS_A0 at hm
   refine Qk ?_
   refine Qf ?_
   refine Qb rfl rfl rfl rfl (Qi rfl) ?_
   refine Qb rfl rfl rfl rfl (Qh rfl) ?_
   refine Qe ?_
   refine Qm [4] [] rfl rfl rfl rfl (by rw [hF]; rfl) ?_
   refine QH ?_
   obtain rfl := Qr hm
   refine ⟨[_], [], ⟨rfl, trivial⟩, ?_, rfl, rfl, rfl, rfl⟩
   rfl
  ·unfold m_laws_heldPointS_A0 at hm
   obtain rfl := Qr hm
   refine ⟨[_], [], ⟨rfl, trivial⟩, ?_, rfl, rfl, rfl, rfl⟩
   rfl
 ·unfold m_laws_heldPointS_L0 at hm
  refine Qk ?_
  refine Qk ?_
  refine Qf ?_
  refine Qb rfl rfl rfl rfl (Qi rfl) ?_
  refine Qb rfl rfl rfl rfl (Qi rfl) ?_
  refine Qb rfl rfl rfl rfl (Q8 Try.underlying67 rfl (List.length_map _)) ?_
  refine Xg (fun _ _ _ hr => RelP.slLen (i := 7) rfl hr) (fun hlen8 => ?_)
  rw [List.length_map] at hlen8
  refine Qb rfl rfl rfl rfl (Xd rfl rfl) ?_
  refine Qe ?_
  refine QF rfl (fun hq => ?_) (fun hq => ?_)
  ·replace hm := QT hq hm
   refine QG ?_
   refine Qk ?_
   refine QV ?_
   refine Qk ?_
   refine Qk ?_
   refine Qf ?_
   refine Qb rfl rfl rfl rfl (Qi rfl) ?_
   refine Qb rfl rfl rfl rfl (Qi rfl) ?_
   obtain ⟨x14, hx14, hm⟩ := Qw hm
   refine Qb rfl rfl rfl rfl (QU el67 rfl rfl hx14 rfl) ?_
   refine Qb rfl rfl rfl rfl (QY (n := 1) fa81_0 rfl rfl rfl) ?_
   refine Qb rfl rfl rfl rfl (Qg ag2 rfl rfl) ?_
   refine Qb rfl rfl rfl rfl (Qi rfl) ?_
   refine Qb rfl rfl rfl rfl (op_neq rfl rfl) ?_
   refine Qe ?_
   refine QF rfl (fun hq => ?_) (fun hq => ?_)
   ·replace hm := QT hq hm
    refine Qk ?_
    refine Qf ?_
    refine Qb rfl rfl rfl rfl (Qh rfl) ?_
    refine Qe ?_
    refine Qm [4] [] rfl rfl rfl rfl (by rw [hF]; rfl) ?_
    refine QH ?_
    obtain rfl := Qr hm
    have hn := QI hc0
    exact hx0 (.inr (-1 : Int)) hn
   ·replace hm := QS hq hm
    refine QG ?_
    refine Qk ?_
    refine Qf ?_
    refine Qb rfl rfl rfl rfl (Qi rfl) ?_
    refine Qb rfl rfl rfl rfl (Xh rfl rfl) ?_
    refine Qb rfl rfl rfl rfl (Qh rfl) ?_
    refine Qe ?_
    refine Qk ?_
    refine Qf ?_
    refine Qb rfl rfl rfl rfl (Qi rfl) ?_
    refine Qb rfl rfl rfl rfl (Qi rfl) ?_
    refine Qb rfl rfl rfl rfl (QU el67 rfl rfl hx14 rfl) ?_
    refine Qb rfl rfl rfl rfl (Qj fa81_1 rfl rfl) ?_
    refine Qb rfl rfl rfl rfl (Qg ag66 rfl rfl) ?_
    refine Qb rfl rfl rfl rfl (Qi rfl) ?_
    obtain ⟨r27, hr27, hm⟩ := Qw hm
    refine QA (ACall.F (F := F) (c_laws_heldTermS x14.Facts (w64 (s0.1 + (1 : Int))) r27 hr27)) Try.call98 rfl rfl rfl rfl rfl ?_
    refine Qb rfl rfl rfl rfl (Qh rfl) ?_
    refine Qe ?_
    refine Qk ?_
    refine Qf ?_
    refine Qb rfl rfl rfl rfl (Qi rfl) ?_
    refine Qb rfl rfl rfl rfl (Xd rfl rfl) ?_
    refine Qe ?_
    refine QF rfl (fun hq => ?_) (fun hq => ?_)
    ·replace hm := QT hq hm
     refine Qk ?_
     refine Qf ?_
     refine Qb rfl rfl rfl rfl (Qh rfl) ?_
     refine Qe ?_
     refine Qm [4] [] rfl rfl rfl rfl (by rw [hF]; rfl) ?_
     refine QH ?_
     obtain rfl := Qr hm
     have hn := QI hc0
     exact hx0 (.inr (-1 : Int)) hn
    ·replace hm := QS hq hm
     refine QG ?_
     refine Qf ?_
     refine Qb rfl rfl rfl rfl (Qi rfl) ?_
     refine Qb rfl rfl rfl rfl (Xh rfl rfl) ?_
     refine Qb rfl rfl rfl rfl (Qh rfl) ?_
     refine Qe ?_
     refine Q5 [0, 1, 5] [] rfl rfl rfl rfl (by rw [hF]; rfl) ?_
     obtain rfl := Qr hm
     have hn := QM hc0
     exact hn _ rfl
  ·replace hm := QS hq hm
   refine Qm [1] [] rfl rfl rfl rfl (by rw [hF]; rfl) ?_
   refine T_exit ?_
   obtain rfl := Qr hm
   have hn := QI hc0
   exact hx0 (.inl s0.1) hn
theorem c_laws_heldAnnotated (p0 : Annotated) (p1 : Int) (out : Int) (hm : m_laws_heldAnnotated p0 p1 = some out) : ACall Try.prog 47 [.agg [.sl 2 (List.map Qa p0.Pre), .sl 2 (List.map Qa p0.Post), .sl 2 (List.map Qd p0.Code), .sl 2 (List.map Qc p0.Points)], .int .i64 p1] [] (.int .i64 out) [] := by
 refine ACall.intro Try.func47 rfl Try.ntmps47 rfl (fun F hF => ?_)
 unfold m_laws_heldAnnotated at hm
 refine Qk ?_
 refine Qf ?_
 refine TL_box 11 rfl rfl rfl rfl rfl rfl rfl ?_
 refine Qb rfl rfl rfl rfl (Qh rfl) ?_
 refine Qe ?_
 refine Qk ?_
 refine Qf ?_
 refine Qb rfl rfl rfl rfl (Qj fa69_0 rfl rfl) ?_
 refine Qb rfl rfl rfl rfl (Qg ag66 rfl rfl) ?_
 refine Qb rfl rfl rfl rfl (Qi rfl) ?_
 obtain ⟨r8, hr8, hm⟩ := Qw hm
 refine QA (ACall.F (F := F) (c_laws_heldTermS p0.Pre p1 r8 hr8)) Try.call98 rfl rfl rfl rfl rfl ?_
 refine Qb rfl rfl rfl rfl (Qh rfl) ?_
 refine Qe ?_
 refine Qk ?_
 refine Qk ?_
 refine Qf ?_
 refine Qb rfl rfl rfl rfl (Qi rfl) ?_
 refine Qb rfl rfl rfl rfl (Xd rfl rfl) ?_
 refine Qe ?_
 refine QF rfl (fun hq => ?_) (fun hq => ?_)
 ·replace hm := QT hq hm
  refine Qk ?_
  refine Qf ?_
  refine Qb rfl rfl rfl rfl (Qh rfl) ?_
  refine Qe ?_
  refine Qm [4] [] rfl rfl rfl rfl (by rw [hF]; rfl) ?_
  refine QH ?_
  obtain rfl := Qr hm
  refine ⟨[_], [], ⟨rfl, trivial⟩, ?_, rfl, rfl, rfl, rfl⟩
  rfl
 ·replace hm := QS hq hm
  refine QG ?_
  refine Qk ?_
  refine Qf ?_
  refine Qb rfl rfl rfl rfl (Qj fa69_1 rfl rfl) ?_
  refine Qb rfl rfl rfl rfl (Qg ag66 rfl rfl) ?_
  refine Qb rfl rfl rfl rfl (Qi rfl) ?_
  obtain ⟨r14, hr14, hm⟩ := Qw hm
  refine QA (ACall.F (F := F) (c_laws_heldTermS p0.Post r8 r14 hr14)) Try.call98 rfl rfl rfl rfl rfl ?_
  refine Qb rfl rfl rfl rfl (Qh rfl) ?_
  refine Qe ?_
  refine Qk ?_
  refine Qk ?_
  refine Qf ?_
  refine Qb rfl rfl rfl rfl (Qi rfl) ?_
  refine Qb rfl rfl rfl rfl (Xd rfl rfl) ?_
  refine Qe ?_
  refine QF rfl (fun hq => ?_) (fun hq => ?_)
  ·replace hm := QT hq hm
   refine Qk ?_
   refine Qf ?_
   refine Qb rfl rfl rfl rfl (Qh rfl) ?_
   refine Qe ?_
   refine Qm [4] [] rfl rfl rfl rfl (by rw [hF]; rfl) ?_
   refine QH ?_
   obtain rfl := Qr hm
   refine ⟨[_], [], ⟨rfl, trivial⟩, ?_, rfl, rfl, rfl, rfl⟩
   rfl
  ·replace hm := QS hq hm
   refine QG ?_
   refine Qk ?_
   refine Qf ?_
   refine Qb rfl rfl rfl rfl (Qj fa69_2 rfl rfl) ?_
   refine Qb rfl rfl rfl rfl (Qg ag24 rfl rfl) ?_
   refine Qb rfl rfl rfl rfl (Qi rfl) ?_
   obtain ⟨r20, hr20, hm⟩ := Qw hm
   refine QA (ACall.F (F := F) (c_laws_heldInstrS p0.Code r14 r20 hr20)) Try.call99 rfl rfl rfl rfl rfl ?_
   refine Qb rfl rfl rfl rfl (Qh rfl) ?_
   refine Qe ?_
   refine Qk ?_
   refine Qk ?_
   refine Qf ?_
   refine Qb rfl rfl rfl rfl (Qi rfl) ?_
   refine Qb rfl rfl rfl rfl (Xd rfl rfl) ?_
   refine Qe ?_
   refine QF rfl (fun hq => ?_) (fun hq => ?_)
   ·replace hm := QT hq hm
    refine Qk ?_
    refine Qf ?_
    refine Qb rfl rfl rfl rfl (Qh rfl) ?_
    refine Qe ?_
    refine Qm [4] [] rfl rfl rfl rfl (by rw [hF]; rfl) ?_
    refine QH ?_
    obtain rfl := Qr hm
    refine ⟨[_], [], ⟨rfl, trivial⟩, ?_, rfl, rfl, rfl, rfl⟩
    rfl
   ·replace hm := QS hq hm
    refine QG ?_
    refine Qk ?_
    refine Qf ?_
    refine Qb rfl rfl rfl rfl (Qj fa69_3 rfl rfl) ?_
    refine Qb rfl rfl rfl rfl (Qg ag67 rfl rfl) ?_
    refine Qb rfl rfl rfl rfl (Qi rfl) ?_
    obtain ⟨r26, hr26, hm⟩ := Qw hm
    refine QA (ACall.F (F := F) (c_laws_heldPointS p0.Points r20 r26 hr26)) Try.call100 rfl rfl rfl rfl rfl ?_
    refine Qb rfl rfl rfl rfl (Qh rfl) ?_
    refine Qe ?_
    refine Qk ?_
    refine Qk ?_
    refine Qf ?_
    refine Qb rfl rfl rfl rfl (Qi rfl) ?_
    refine Qb rfl rfl rfl rfl (Xd rfl rfl) ?_
    refine Qe ?_
    refine QF rfl (fun hq => ?_) (fun hq => ?_)
    ·replace hm := QT hq hm
     refine Qk ?_
     refine Qf ?_
     refine Qb rfl rfl rfl rfl (Qh rfl) ?_
     refine Qe ?_
     refine Qm [4] [] rfl rfl rfl rfl (by rw [hF]; rfl) ?_
     refine QH ?_
     obtain rfl := Qr hm
     refine ⟨[_], [], ⟨rfl, trivial⟩, ?_, rfl, rfl, rfl, rfl⟩
     rfl
    ·replace hm := QS hq hm
     refine QG ?_
     refine Qk ?_
     refine Qf ?_
     refine Qb rfl rfl rfl rfl (Qi rfl) ?_
     refine Qb rfl rfl rfl rfl (Qh rfl) ?_
     refine Qe ?_
     refine Qm [4] [] rfl rfl rfl rfl (by rw [hF]; rfl) ?_
     refine QH ?_
     obtain rfl := Qr hm
     refine ⟨[_], [], ⟨rfl, trivial⟩, ?_, rfl, rfl, rfl, rfl⟩
     rfl
theorem c_laws_FnExactAddPoint (p0 : Annotated) (p1 : Point) (out : Bool) (hm : m_laws_FnExactAddPoint p0 p1 = some out) : ACall Try.prog 9 [.agg [.sl 2 (List.map Qa p0.Pre), .sl 2 (List.map Qa p0.Post), .sl 2 (List.map Qd p0.Code), .sl 2 (List.map Qc p0.Points)], .agg [.int .i64 p1.At, .sl 2 (List.map Qa p1.Facts)]] [] (.bool out) [] := by
 refine ACall.intro Try.func9 rfl Try.ntmps9 rfl (fun F hF => ?_)
 unfold m_laws_FnExactAddPoint at hm
 refine Qk ?_
 refine Qf ?_
 refine TL_box 11 rfl rfl rfl rfl rfl rfl rfl ?_
 refine TL_box 12 rfl rfl rfl rfl rfl rfl rfl ?_
 refine Qb rfl rfl rfl rfl (Qh rfl) ?_
 refine Qe ?_
 refine Qk ?_
 refine Qf ?_
 refine Qb rfl rfl rfl rfl (Qh rfl) ?_
 refine Qe ?_
 refine Qk ?_
 refine Qf ?_
 refine Qb rfl rfl rfl rfl (Qv ag64 sz64 rfl rfl rfl) ?_
 refine Qb rfl rfl rfl rfl (Qi rfl) ?_
 obtain ⟨r19, hr19, hm⟩ := Qw hm
 refine QA (ACall.F (F := F) (c_laws_szAnnotated p0 (1048576 : Int) r19 hr19)) Try.call41 rfl rfl rfl rfl rfl ?_
 refine Qb rfl rfl rfl rfl (Qh rfl) ?_
 refine Qe ?_
 refine Qk ?_
 refine Qk ?_
 refine Qf ?_
 refine Qb rfl rfl rfl rfl (Qi rfl) ?_
 refine Qb rfl rfl rfl rfl (Xd rfl rfl) ?_
 refine Qe ?_
 refine QF rfl (fun hq => ?_) (fun hq => ?_)
 ·replace hm := QT hq hm
  refine Qk ?_
  refine Qf ?_
  refine Qb rfl rfl rfl rfl (Qh rfl) ?_
  refine Qe ?_
  refine Qm [4] [] rfl rfl rfl rfl (by rw [hF]; rfl) ?_
  refine QH ?_
  obtain rfl := Qr hm
  refine ⟨[_], [], ⟨rfl, trivial⟩, ?_, rfl, rfl, rfl, rfl⟩
  rfl
 ·replace hm := QS hq hm
  refine QG ?_
  refine Qk ?_
  refine Qf ?_
  refine Qb rfl rfl rfl rfl (Qv ag77 sz77 rfl rfl rfl) ?_
  refine Qb rfl rfl rfl rfl (Qi rfl) ?_
  obtain ⟨r24, hr24, hm⟩ := Qw hm
  refine QA (ACall.F (F := F) (c_laws_szPoint p1 r19 r24 hr24)) Try.call50 rfl rfl rfl rfl rfl ?_
  refine Qb rfl rfl rfl rfl (Qh rfl) ?_
  refine Qe ?_
  refine Qk ?_
  refine Qk ?_
  refine Qf ?_
  refine Qb rfl rfl rfl rfl (Qi rfl) ?_
  refine Qb rfl rfl rfl rfl (Xd rfl rfl) ?_
  refine Qe ?_
  refine QF rfl (fun hq => ?_) (fun hq => ?_)
  ·replace hm := QT hq hm
   refine Qk ?_
   refine Qf ?_
   refine Qb rfl rfl rfl rfl (Qh rfl) ?_
   refine Qe ?_
   refine Qm [4] [] rfl rfl rfl rfl (by rw [hF]; rfl) ?_
   refine QH ?_
   obtain rfl := Qr hm
   refine ⟨[_], [], ⟨rfl, trivial⟩, ?_, rfl, rfl, rfl, rfl⟩
   rfl
  ·replace hm := QS hq hm
   refine QG ?_
   refine T_join (fun (j0 : (List Term) × (List Term) × (List Instr) × (List Point) × Bool) => ⟨[(2, .ptr 11 0 0), (3, .ptr 12 0 0), (6, .ptr 733 0 0), (7, .bool j0.2.2.2.2)], [(11, .box [.sl 2 (List.map Qa p0.Pre), .sl 2 (List.map Qa p0.Post), .sl 2 (List.map Qd p0.Code), .sl 2 (List.map Qc p0.Points)]), (12, .box [.int .i64 p1.At, .sl 2 (List.map Qa p1.Facts)]), (733, .box [.sl 2 (List.map Qa j0.1), .sl 2 (List.map Qa j0.2.1), .sl 2 (List.map Qd j0.2.2.1), .sl 2 (List.map Qc j0.2.2.2.1)])]⟩) (fun j0 => m_laws_FnExactAddPoint_J0 p0 p1 j0 = some out) (fun j0 hm => ?_) (fun hj0 => ?_)
   ·unfold m_laws_FnExactAddPoint_J0 at hm
    refine Qk ?_
    refine Qf ?_
    refine Qb rfl rfl rfl rfl (Qv ag64 sz64 rfl rfl rfl) ?_
    obtain ⟨r36, hr36, hm⟩ := Qw hm
    refine Qt [(1000, 893), (1001, 894), (1002, 895), (1003, 896)] (ACall.F (F := F) (c_laws_toAnnotated p0 r36 hr36)) Try.call43 rfl rfl rfl rfl rfl rfl rfl rfl rfl rfl rfl rfl rfl ?_
    refine QJ 897 z69 rfl rfl rfl rfl rfl rfl rfl ?_
    refine Qo sz69 rfl rfl rfl rfl rfl rfl rfl rfl rfl ?_
    refine Qe ?_
    refine Qk ?_
    refine Qf ?_
    refine Qb rfl rfl rfl rfl (Qv ag77 sz77 rfl rfl rfl) ?_
    obtain ⟨r38, hr38, hm⟩ := Qw hm
    refine Qt [(1000, 898)] (ACall.F (F := F) (c_laws_toPoint p1 r38 hr38)) Try.call52 rfl rfl rfl rfl rfl rfl rfl rfl rfl rfl rfl rfl rfl ?_
    refine QJ 899 z81 rfl rfl rfl rfl rfl rfl rfl ?_
    refine Qo sz81 rfl rfl rfl rfl rfl rfl rfl rfl rfl ?_
    refine Qe ?_
    refine Qk ?_
    refine Qf ?_
    refine Qb rfl rfl rfl rfl (Qv ag69 sz69 rfl rfl rfl) ?_
    refine Qb rfl rfl rfl rfl (Qv ag81 sz81 rfl rfl rfl) ?_
    obtain ⟨r42, hr42, hm⟩ := Qw hm
    refine Qt [(1000, 900), (1001, 901), (1002, 902), (1003, 903)] (ACall.F (F := F) (c_impl_AddPoint r36 r38 r42 hr42)) Try.call53 rfl rfl rfl rfl rfl rfl rfl rfl rfl rfl rfl rfl rfl ?_
    refine Qb rfl rfl rfl rfl (Qi rfl) ?_
    refine Qb rfl rfl rfl rfl (op_extract rfl rfl) ?_
    refine Qb rfl rfl rfl rfl (op_extract rfl rfl) ?_
    refine QJ 904 z69 rfl rfl rfl rfl rfl rfl rfl ?_
    refine Qo sz69 rfl rfl rfl rfl rfl rfl rfl rfl rfl ?_
    refine Qb rfl rfl rfl rfl (Qh rfl) ?_
    refine Qe ?_
    refine Qk ?_
    refine Qk ?_
    refine Qf ?_
    refine Qb rfl rfl rfl rfl (Qv ag69 sz69 rfl rfl rfl) ?_
    refine Qb rfl rfl rfl rfl (Qv ag69 sz69 rfl rfl rfl) ?_
    obtain ⟨r47, hr47, hm⟩ := Qw hm
    refine QA (ACall.F (F := F) (c_laws_eqAnnotated r42.1 (Annotated.mk j0.1 j0.2.1 j0.2.2.1 j0.2.2.2.1) r47 hr47)) Try.call45 rfl rfl rfl rfl rfl ?_
    refine Qb rfl rfl rfl rfl (op_not rfl) ?_
    refine Qb rfl rfl rfl rfl (Qi rfl) ?_
    refine TL_join 4 (fun _ : Unit => ⟨[(2, .ptr 11 0 0), (3, .ptr 12 0 0), (6, .ptr 733 0 0), (7, .bool j0.2.2.2.2), (8, .ptr 897 0 0), (9, .ptr 899 0 0), (10, .ptr 904 0 0), (11, .bool r42.2), (53, .bool ((!r47) || (!(r42.2 == j0.2.2.2.2))))], [(11, .box [.sl 2 (List.map Qa p0.Pre), .sl 2 (List.map Qa p0.Post), .sl 2 (List.map Qd p0.Code), .sl 2 (List.map Qc p0.Points)]), (12, .box [.int .i64 p1.At, .sl 2 (List.map Qa p1.Facts)]), (733, .box [.sl 2 (List.map Qa j0.1), .sl 2 (List.map Qa j0.2.1), .sl 2 (List.map Qd j0.2.2.1), .sl 2 (List.map Qc j0.2.2.2.1)]), (893, .arr ⟨false, true⟩ 2 184 (List.map Qa r36.Pre)), (894, .arr ⟨false, true⟩ 2 184 (List.map Qa r36.Post)), (895, .arr ⟨false, true⟩ 2 40 (List.map Qd r36.Code)), (896, .arr ⟨false, true⟩ 2 81 (List.map Qc r36.Points)), (897, .box [.ow 893, .ow 894, .ow 895, .ow 896]), (898, .arr ⟨false, true⟩ 2 184 (List.map Qa r38.Facts)), (899, .box [.int .i64 r38.At, .ow 898]), (900, .arr ⟨false, true⟩ 2 184 (List.map Qa r42.1.Pre)), (901, .arr ⟨false, true⟩ 2 184 (List.map Qa r42.1.Post)), (902, .arr ⟨false, true⟩ 2 40 (List.map Qd r42.1.Code)), (903, .arr ⟨false, true⟩ 2 81 (List.map Qc r42.1.Points)), (904, .box [.ow 900, .ow 901, .ow 902, .ow 903])]⟩) (fun _ => True) (fun _ _ => ?_) (fun hjj => ?_)
    ·refine Qe ?_
     refine QF rfl (fun hq => ?_) (fun hq => ?_)
     ·replace hm := QT hq hm
      refine Qk ?_
      refine Qf ?_
      refine Qb rfl rfl rfl rfl (Qh rfl) ?_
      refine Qe ?_
      refine Qm [4] [] rfl rfl rfl rfl (by rw [hF]; rfl) ?_
      refine QH ?_
      obtain rfl := Qr hm
      refine ⟨[_], [], ⟨rfl, trivial⟩, ?_, rfl, rfl, rfl, rfl⟩
      rfl
     ·replace hm := QS hq hm
      refine QG ?_
      refine Qk ?_
      refine Qk ?_
      refine T_drawZ [] mix (by kernel_rfl) rfl ?_
      obtain ⟨r56, hr56, hm⟩ := Qw hm
      obtain ⟨r57, hr57, hm⟩ := Qw hm
      refine Qn 0 (by kernel_rfl) rfl rfl rfl rfl rfl (Qv ag69 sz69 rfl rfl rfl) ?_
      refine Qn 1 (by kernel_rfl) rfl rfl rfl rfl rfl (Qv ag64 sz64 rfl rfl rfl) ?_
      refine Qs 2 (by kernel_rfl) rfl ?_
      refine Qt [(1000, 917), (1001, 918), (1002, 919), (1003, 920)] (ACall.F (F := F) (c_laws_toAnnotated p0 r56 hr56)) Try.call43 rfl rfl rfl rfl rfl rfl rfl rfl rfl rfl rfl rfl rfl ?_
      refine Qe ?_
      refine Qs 3 (by kernel_rfl) rfl ?_
      refine QA (ACall.F (F := F) (c_laws_eqAnnotated r36 r56 r57 hr57)) Try.call45 rfl rfl rfl rfl rfl ?_
      refine Qe ?_
      refine Qn 4 (by kernel_rfl) rfl rfl rfl rfl rfl (op_not rfl) ?_
      refine QX (by kernel_rfl) ?_
      refine QF rfl (fun hq => ?_) (fun hq => ?_)
      ·replace hm := QT hq hm
       refine Qk ?_
       refine Qf ?_
       refine Qb rfl rfl rfl rfl (Qh rfl) ?_
       refine Qe ?_
       refine Qm [4] [] rfl rfl rfl rfl (by rw [hF]; rfl) ?_
       refine QH ?_
       obtain rfl := Qr hm
       refine ⟨[_], [], ⟨rfl, trivial⟩, ?_, rfl, rfl, rfl, rfl⟩
       rfl
      ·replace hm := QS hq hm
       refine QG ?_
       refine Qk ?_
       refine Qk ?_
       refine T_drawZ [] mix (by kernel_rfl) rfl ?_
       obtain ⟨r61, hr61, hm⟩ := Qw hm
       obtain ⟨r62, hr62, hm⟩ := Qw hm
       refine Qn 0 (by kernel_rfl) rfl rfl rfl rfl rfl (Qv ag81 sz81 rfl rfl rfl) ?_
       refine Qn 1 (by kernel_rfl) rfl rfl rfl rfl rfl (Qv ag77 sz77 rfl rfl rfl) ?_
       refine Qs 2 (by kernel_rfl) rfl ?_
       refine Qt [(1000, 924)] (ACall.F (F := F) (c_laws_toPoint p1 r61 hr61)) Try.call52 rfl rfl rfl rfl rfl rfl rfl rfl rfl rfl rfl rfl rfl ?_
       refine Qe ?_
       refine Qs 3 (by kernel_rfl) rfl ?_
       refine QA (ACall.F (F := F) (c_laws_eqPoint r38 r61 r62 hr62)) Try.call54 rfl rfl rfl rfl rfl ?_
       refine Qe ?_
       refine Qn 4 (by kernel_rfl) rfl rfl rfl rfl rfl (op_not rfl) ?_
       refine QX (by kernel_rfl) ?_
       refine QF rfl (fun hq => ?_) (fun hq => ?_)
       ·replace hm := QT hq hm
        refine Qk ?_
        refine Qf ?_
        refine Qb rfl rfl rfl rfl (Qh rfl) ?_
        refine Qe ?_
        refine Qm [4] [] rfl rfl rfl rfl (by rw [hF]; rfl) ?_
        refine QH ?_
        obtain rfl := Qr hm
        refine ⟨[_], [], ⟨rfl, trivial⟩, ?_, rfl, rfl, rfl, rfl⟩
        rfl
       ·replace hm := QS hq hm
        refine QG ?_
        refine Qk ?_
        refine Qf ?_
        refine Qb rfl rfl rfl rfl (Qh rfl) ?_
        refine Qe ?_
        refine Qk ?_
        refine Qf ?_
        refine Qb rfl rfl rfl rfl (Qv ag69 sz69 rfl rfl rfl) ?_
        refine Qb rfl rfl rfl rfl (Qi rfl) ?_
        refine TL_pin 893 (k' := ⟨true, true⟩) (by rw [hF]; rfl) rfl rfl rfl ?_
        refine TL_pin 894 (k' := ⟨true, true⟩) (by rw [hF]; rfl) rfl rfl rfl ?_
        refine TL_pin 895 (k' := ⟨true, true⟩) (by rw [hF]; rfl) rfl rfl rfl ?_
        refine TL_pin 896 (k' := ⟨true, true⟩) (by rw [hF]; rfl) rfl rfl rfl ?_
        obtain ⟨r66, hr66, hm⟩ := Qw hm
        refine TL_call [(0, 893), (1, 894), (2, 895), (3, 896)] [] [] (ACall.F (F := F) (c_laws_markAnnotated r36 (1 : Int) r66 hr66 _ _ _ _)) Try.call46 rfl rfl rfl rfl rfl ⟨rfl, rfl, rfl, rfl, trivial⟩ rfl rfl rfl rfl rfl rfl rfl rfl rfl rfl rfl ?_
        refine Qb rfl rfl rfl rfl (Qh rfl) ?_
        refine Qe ?_
        refine Qk ?_
        refine Qf ?_
        refine Qb rfl rfl rfl rfl (Qv ag81 sz81 rfl rfl rfl) ?_
        refine Qb rfl rfl rfl rfl (Qi rfl) ?_
        refine TL_pin 898 (k' := ⟨true, true⟩) (by rw [hF]; rfl) rfl rfl rfl ?_
        obtain ⟨r69, hr69, hm⟩ := Qw hm
        refine TL_call [(0, 898)] [] [] (ACall.F (F := F) (c_laws_markPoint r38 r66.1 r69 hr69 _)) Try.call55 rfl rfl rfl rfl rfl ⟨rfl, trivial⟩ rfl rfl rfl rfl rfl rfl rfl rfl rfl rfl rfl ?_
        refine Qb rfl rfl rfl rfl (Qh rfl) ?_
        refine Qe ?_
        refine Qk ?_
        refine Qk ?_
        refine Qf ?_
        refine Qb rfl rfl rfl rfl (Qi rfl) ?_
        refine Qb rfl rfl rfl rfl (Xd rfl rfl) ?_
        refine Qb rfl rfl rfl rfl (Qi rfl) ?_
        refine TL_split 72 rfl rfl rfl (fun hq => ?_) (fun hq => ?_)
        ·replace hm := QT hq hm
         refine Qq rfl rfl rfl rfl rfl rfl rfl ?_
         refine Qq rfl rfl rfl rfl rfl rfl rfl ?_
         refine Qq rfl rfl rfl rfl rfl rfl rfl ?_
         refine Qq rfl rfl rfl rfl rfl rfl rfl ?_
         refine Qb rfl rfl rfl rfl (QC rfl rfl) ?_
         refine Qb rfl rfl rfl rfl (Qi rfl) ?_
         refine Qq rfl rfl rfl rfl rfl rfl rfl ?_
         refine Qq rfl rfl rfl rfl rfl rfl rfl ?_
         refine Qq rfl rfl rfl rfl rfl rfl rfl ?_
         refine Qb rfl rfl rfl rfl (QC rfl rfl) ?_
         refine Qe ?_
         refine T_cond_true rfl ?_
         refine Qk ?_
         refine Qf ?_
         refine Qb rfl rfl rfl rfl (Qh rfl) ?_
         refine Qe ?_
         refine Qm [4] [] rfl rfl rfl rfl (by rw [hF]; rfl) ?_
         refine QH ?_
         obtain rfl := Qr hm
         refine ⟨[_], [], ⟨rfl, trivial⟩, ?_, rfl, rfl, rfl, rfl⟩
         rfl
        ·replace hm := QS hq hm
         refine Qx rfl rfl ?_
         refine Qb rfl rfl rfl rfl (Qv ag69 sz69 rfl rfl rfl) ?_
         refine Qx rfl rfl ?_
         refine Qb rfl rfl rfl rfl (Qv ag69 sz69 rfl rfl rfl) ?_
         refine Qx rfl rfl ?_
         obtain ⟨r75, hr75, hm⟩ := Qw hm
         refine QA (ACall.F (F := F) (c_laws_eqAnnotated r42.1 (Annotated.mk j0.1 j0.2.1 j0.2.2.1 j0.2.2.2.1) r75 hr75)) Try.call45 rfl rfl rfl rfl rfl ?_
         refine Qx rfl rfl ?_
         refine Qb rfl rfl rfl rfl (op_not rfl) ?_
         refine Qb rfl rfl rfl rfl (QB rfl rfl) ?_
         refine Qb rfl rfl rfl rfl (Qi rfl) ?_
         refine TL_join 4 (fun _ : Unit => ⟨[(2, .ptr 11 0 0), (3, .ptr 12 0 0), (6, .ptr 733 0 0), (7, .bool j0.2.2.2.2), (10, .ptr 904 0 0), (82, .bool ((!r75) || (!(r42.2 == j0.2.2.2.2))))], [(11, .box [.sl 2 (List.map Qa p0.Pre), .sl 2 (List.map Qa p0.Post), .sl 2 (List.map Qd p0.Code), .sl 2 (List.map Qc p0.Points)]), (12, .box [.int .i64 p1.At, .sl 2 (List.map Qa p1.Facts)]), (733, .box [.sl 2 (List.map Qa j0.1), .sl 2 (List.map Qa j0.2.1), .sl 2 (List.map Qd j0.2.2.1), .sl 2 (List.map Qc j0.2.2.2.1)]), (900, .arr ⟨false, true⟩ 2 184 (List.map Qa r42.1.Pre)), (901, .arr ⟨false, true⟩ 2 184 (List.map Qa r42.1.Post)), (902, .arr ⟨false, true⟩ 2 40 (List.map Qd r42.1.Code)), (903, .arr ⟨false, true⟩ 2 81 (List.map Qc r42.1.Points)), (904, .box [.ow 900, .ow 901, .ow 902, .ow 903])]⟩) (fun _ => True) (fun _ _ => ?_) (fun hjj => ?_)
         ·refine Qe ?_
          refine QF rfl (fun hq => ?_) (fun hq => ?_)
          ·replace hm := QT hq hm
           refine Qk ?_
           refine Qf ?_
           refine Qb rfl rfl rfl rfl (Qh rfl) ?_
           refine Qe ?_
           refine Qm [4] [] rfl rfl rfl rfl (by rw [hF]; rfl) ?_
           refine QH ?_
           obtain rfl := Qr hm
           refine ⟨[_], [], ⟨rfl, trivial⟩, ?_, rfl, rfl, rfl, rfl⟩
           rfl
          ·replace hm := QS hq hm
           refine QG ?_
           refine Qk ?_
           refine Qf ?_
           refine Qb rfl rfl rfl rfl (Qh rfl) ?_
           refine Qe ?_
           refine Qk ?_
           refine Qf ?_
           refine Qb rfl rfl rfl rfl (Qv ag69 sz69 rfl rfl rfl) ?_
           refine Qb rfl rfl rfl rfl (Qi rfl) ?_
           refine TL_pin 900 (k' := ⟨true, true⟩) (by rw [hF]; rfl) rfl rfl rfl ?_
           refine TL_pin 901 (k' := ⟨true, true⟩) (by rw [hF]; rfl) rfl rfl rfl ?_
           refine TL_pin 902 (k' := ⟨true, true⟩) (by rw [hF]; rfl) rfl rfl rfl ?_
           refine TL_pin 903 (k' := ⟨true, true⟩) (by rw [hF]; rfl) rfl rfl rfl ?_
           obtain ⟨r85, hr85, hm⟩ := Qw hm
           refine TL_call [(0, 900), (1, 901), (2, 902), (3, 903)] [] [] (ACall.F (F := F) (c_laws_markAnnotated r42.1 (1 : Int) r85 hr85 _ _ _ _)) Try.call46 rfl rfl rfl rfl rfl ⟨rfl, rfl, rfl, rfl, trivial⟩ rfl rfl rfl rfl rfl rfl rfl rfl rfl rfl rfl ?_
           refine Qb rfl rfl rfl rfl (Qh rfl) ?_
           refine Qe ?_
           refine Qk ?_
           refine Qf ?_
           refine Qb rfl rfl rfl rfl (Qh rfl) ?_
           refine Qe ?_
           refine Qk ?_
           refine Qf ?_
           refine Qb rfl rfl rfl rfl (Qv ag69 sz69 rfl rfl rfl) ?_
           refine Qb rfl rfl rfl rfl (Qi rfl) ?_
           obtain ⟨r88, hr88, hm⟩ := Qw hm
           refine QA (ACall.F (F := F) (c_laws_heldAnnotated (Annotated.mk r85.2.1 r85.2.2.1 r85.2.2.2.1 r85.2.2.2.2) (1 : Int) r88 hr88)) Try.call47 rfl rfl rfl rfl rfl ?_
           refine Qb rfl rfl rfl rfl (Qh rfl) ?_
           refine Qe ?_
           refine Qk ?_
           refine Qk ?_
           refine Qf ?_
           refine Qb rfl rfl rfl rfl (Qi rfl) ?_
           refine Qb rfl rfl rfl rfl (Xd rfl rfl) ?_
           refine Qe ?_
           refine QF rfl (fun hq => ?_) (fun hq => ?_)
           ·replace hm := QT hq hm
            refine Qk ?_
            refine Qf ?_
            refine Qb rfl rfl rfl rfl (Qh rfl) ?_
            refine Qe ?_
            refine Qm [4] [] rfl rfl rfl rfl (by rw [hF]; rfl) ?_
            refine QH ?_
            obtain rfl := Qr hm
            refine ⟨[_], [], ⟨rfl, trivial⟩, ?_, rfl, rfl, rfl, rfl⟩
            rfl
           ·replace hm := QS hq hm
            refine QG ?_
            refine Qk ?_
            refine Qk ?_
            refine Qf ?_
            refine Qb rfl rfl rfl rfl (Qi rfl) ?_
            refine Qb rfl rfl rfl rfl (Qi rfl) ?_
            refine Qb rfl rfl rfl rfl (op_neq rfl rfl) ?_
            refine Qe ?_
            refine QF rfl (fun hq => ?_) (fun hq => ?_)
            ·replace hm := QT hq hm
             refine Qk ?_
             refine Qf ?_
             refine Qb rfl rfl rfl rfl (Qh rfl) ?_
             refine Qe ?_
             refine Qm [4] [] rfl rfl rfl rfl (by rw [hF]; rfl) ?_
             refine QH ?_
             obtain rfl := Qr hm
             refine ⟨[_], [], ⟨rfl, trivial⟩, ?_, rfl, rfl, rfl, rfl⟩
             rfl
            ·replace hm := QS hq hm
             refine QG ?_
             refine T_join (fun (j1 : (List Term) × (List Term) × (List Instr) × (List Point) × Bool) => ⟨[(6, .ptr 733 0 0), (7, .bool j0.2.2.2.2), (10, .ptr 904 0 0), (13, .int .i64 r85.1), (15, .ptr 1645 0 0), (16, .bool j1.2.2.2.2)], [(733, .box [.sl 2 (List.map Qa j0.1), .sl 2 (List.map Qa j0.2.1), .sl 2 (List.map Qd j0.2.2.1), .sl 2 (List.map Qc j0.2.2.2.1)]), (900, .arr ⟨true, true⟩ 2 184 (List.map Qa r85.2.1)), (901, .arr ⟨true, true⟩ 2 184 (List.map Qa r85.2.2.1)), (902, .arr ⟨true, true⟩ 2 40 (List.map Qd r85.2.2.2.1)), (903, .arr ⟨true, true⟩ 2 81 (List.map Qc r85.2.2.2.2)), (904, .box [.ow 900, .ow 901, .ow 902, .ow 903]), (1325, .arr ⟨false, true⟩ 2 184 (List.map Qa j1.1)), (1326, .arr ⟨false, true⟩ 2 184 (List.map Qa j1.2.1)), (1327, .arr ⟨false, true⟩ 2 40 (List.map Qd j1.2.2.1)), (1328, .arr ⟨false, true⟩ 2 81 (List.map Qc j1.2.2.2.1)), (1645, .box [.ow 1325, .ow 1326, .ow 1327, .ow 1328])]⟩) (fun j1 => m_laws_FnExactAddPoint_J1 j0 r85 j1 = some out) (fun j1 hm => ?_) (fun hj1 => ?_)
             ·unfold m_laws_FnExactAddPoint_J1 at hm
              refine Qk ?_
              refine Qk ?_
              refine Qf ?_
              refine Qb rfl rfl rfl rfl (Qv ag69 sz69 rfl rfl rfl) ?_
              refine Qb rfl rfl rfl rfl (Qv ag69 sz69 rfl rfl rfl) ?_
              obtain ⟨r104, hr104, hm⟩ := Qw hm
              refine QA (ACall.F (F := F) (c_laws_eqAnnotated (Annotated.mk j1.1 j1.2.1 j1.2.2.1 j1.2.2.2.1) (Annotated.mk j0.1 j0.2.1 j0.2.2.1 j0.2.2.2.1) r104 hr104)) Try.call45 rfl rfl rfl rfl rfl ?_
              refine Qb rfl rfl rfl rfl (op_not rfl) ?_
              refine Qb rfl rfl rfl rfl (Qi rfl) ?_
              refine TL_join 4 (fun _ : Unit => ⟨[(10, .ptr 904 0 0), (13, .int .i64 r85.1), (110, .bool ((!r104) || (!(j1.2.2.2.2 == j0.2.2.2.2))))], [(900, .arr ⟨true, true⟩ 2 184 (List.map Qa r85.2.1)), (901, .arr ⟨true, true⟩ 2 184 (List.map Qa r85.2.2.1)), (902, .arr ⟨true, true⟩ 2 40 (List.map Qd r85.2.2.2.1)), (903, .arr ⟨true, true⟩ 2 81 (List.map Qc r85.2.2.2.2)), (904, .box [.ow 900, .ow 901, .ow 902, .ow 903])]⟩) (fun _ => True) (fun _ _ => ?_) (fun hjj => ?_)
              ·refine Qe ?_
               refine QF rfl (fun hq => ?_) (fun hq => ?_)
               ·replace hm := QT hq hm
                refine Qk ?_
                refine Qf ?_
                refine Qb rfl rfl rfl rfl (Qh rfl) ?_
                refine Qe ?_
                refine Qm [4] [] rfl rfl rfl rfl (by rw [hF]; rfl) ?_
                refine QH ?_
                obtain rfl := Qr hm
                refine ⟨[_], [], ⟨rfl, trivial⟩, ?_, rfl, rfl, rfl, rfl⟩
                rfl
               ·replace hm := QS hq hm
                refine QG ?_
                refine Qk ?_
                refine Qf ?_
                refine Qb rfl rfl rfl rfl (Qh rfl) ?_
                refine Qe ?_
                refine Qk ?_
                refine Qf ?_
                refine Qb rfl rfl rfl rfl (Qv ag69 sz69 rfl rfl rfl) ?_
                refine Qb rfl rfl rfl rfl (Qi rfl) ?_
                obtain ⟨r113, hr113, hm⟩ := Qw hm
                refine QA (ACall.F (F := F) (c_laws_heldAnnotated (Annotated.mk r85.2.1 r85.2.2.1 r85.2.2.2.1 r85.2.2.2.2) (1 : Int) r113 hr113)) Try.call47 rfl rfl rfl rfl rfl ?_
                refine Qb rfl rfl rfl rfl (Qh rfl) ?_
                refine Qe ?_
                refine Qk ?_
                refine Qk ?_
                refine Qf ?_
                refine Qb rfl rfl rfl rfl (Qi rfl) ?_
                refine Qb rfl rfl rfl rfl (Xd rfl rfl) ?_
                refine Qe ?_
                refine QF rfl (fun hq => ?_) (fun hq => ?_)
                ·replace hm := QT hq hm
                 refine Qk ?_
                 refine Qf ?_
                 refine Qb rfl rfl rfl rfl (Qh rfl) ?_
                 refine Qe ?_
                 refine Qm [4] [] rfl rfl rfl rfl (by rw [hF]; rfl) ?_
                 refine QH ?_
                 obtain rfl := Qr hm
                 refine ⟨[_], [], ⟨rfl, trivial⟩, ?_, rfl, rfl, rfl, rfl⟩
                 rfl
                ·replace hm := QS hq hm
                 refine QG ?_
                 refine Qk ?_
                 refine Qk ?_
                 refine Qf ?_
                 refine Qb rfl rfl rfl rfl (Qi rfl) ?_
                 refine Qb rfl rfl rfl rfl (Qi rfl) ?_
                 refine Qb rfl rfl rfl rfl (op_neq rfl rfl) ?_
                 refine Qe ?_
                 refine QF rfl (fun hq => ?_) (fun hq => ?_)
                 ·replace hm := QT hq hm
                  refine Qk ?_
                  refine Qf ?_
                  refine Qb rfl rfl rfl rfl (Qh rfl) ?_
                  refine Qe ?_
                  refine Qm [4] [] rfl rfl rfl rfl (by rw [hF]; rfl) ?_
                  refine QH ?_
                  obtain rfl := Qr hm
                  refine ⟨[_], [], ⟨rfl, trivial⟩, ?_, rfl, rfl, rfl, rfl⟩
                  rfl
                 ·replace hm := QS hq hm
                  refine QG ?_
                  refine Qk ?_
                  refine Qf ?_
                  refine Qb rfl rfl rfl rfl (Qh rfl) ?_
                  refine Qe ?_
                  refine Qm [4] [] rfl rfl rfl rfl (by rw [hF]; rfl) ?_
                  refine QH ?_
                  obtain rfl := Qr hm
                  refine ⟨[_], [], ⟨rfl, trivial⟩, ?_, rfl, rfl, rfl, rfl⟩
                  rfl
              ·refine TL_split 106 rfl rfl rfl (fun hq => ?_) (fun hq => ?_)
               ·refine Qq rfl rfl rfl rfl rfl rfl rfl ?_
                refine Qq rfl rfl rfl rfl rfl rfl rfl ?_
                refine Qq rfl rfl rfl rfl rfl rfl rfl ?_
                refine Qb rfl rfl rfl rfl (QC rfl rfl) ?_
                refine TL_keepH [10, 13, 110] [900, 901, 902, 903, 904] rfl rfl rfl rfl (by rw [hF]; rfl) ?_
                exact TL_cast _ (by first | (rw [hq, Bool.true_or]; done) | (rw [hq]; rfl)) (hjj () trivial)
               ·refine Qx rfl rfl ?_
                refine Qb rfl rfl rfl rfl (Qi rfl) ?_
                refine Qx rfl rfl ?_
                refine Qb rfl rfl rfl rfl (Qi rfl) ?_
                refine Qx rfl rfl ?_
                refine Qb rfl rfl rfl rfl (op_neqB Try.underlying4 rfl rfl) ?_
                refine Qb rfl rfl rfl rfl (QB rfl rfl) ?_
                refine TL_keepH [10, 13, 110] [900, 901, 902, 903, 904] rfl rfl rfl rfl (by rw [hF]; rfl) ?_
                exact TL_cast _ (by first | (rw [hq, Bool.false_or]; done) | (rw [hq]; rfl)) (hjj () trivial)
             ·refine T_drawZ [9] mix (by kernel_rfl) rfl ?_
              obtain ⟨r96, hr96, hm⟩ := Qw hm
              obtain ⟨r98, hr98, hm⟩ := Qw hm
              obtain ⟨r99, hr99, hm⟩ := Qw hm
              refine Qn 0 (by kernel_rfl) rfl rfl rfl rfl rfl (Qv ag64 sz64 rfl rfl rfl) ?_
              refine Qn 2 (by kernel_rfl) rfl rfl rfl rfl rfl (Qv ag77 sz77 rfl rfl rfl) ?_
              refine Qy 6 [true, true, true, true, true, false, false, false, false, false, false] ⟨[(2, .ptr 11 0 0), (3, .ptr 12 0 0), (6, .ptr 733 0 0), (7, .bool j0.2.2.2.2), (10, .ptr 904 0 0), (13, .int .i64 r85.1), (14, .int .i64 r88), (82, .bool ((!r75) || (!(r42.2 == j0.2.2.2.2)))), (83, .agg [.ow 900, .ow 901, .ow 902, .ow 903]), (84, .int .i64 (1 : Int)), (85, .int .i64 r85.1), (86, .agg [.ow 900, .ow 901, .ow 902, .ow 903]), (87, .int .i64 (1 : Int)), (88, .int .i64 r88), (89, .int .i64 r88), (90, .bool (decide (r88 < (0 : Int)))), (91, .int .i64 r88), (92, .int .i64 r85.1), (93, .bool (!decide (r88 = r85.1))), (95, .agg [.sl 2 (List.map Qa p0.Pre), .sl 2 (List.map Qa p0.Post), .sl 2 (List.map Qd p0.Code), .sl 2 (List.map Qc p0.Points)]), (96, .agg [.ow 1965, .ow 1966, .ow 1967, .ow 1968]), (97, .agg [.int .i64 p1.At, .sl 2 (List.map Qa p1.Facts)]), (98, .agg [.int .i64 r98.At, .ow 2125]), (99, .tup [.agg [.ow 2205, .ow 2206, .ow 2207, .ow 2208], .bool r99.2])], [(11, .box [.sl 2 (List.map Qa p0.Pre), .sl 2 (List.map Qa p0.Post), .sl 2 (List.map Qd p0.Code), .sl 2 (List.map Qc p0.Points)]), (12, .box [.int .i64 p1.At, .sl 2 (List.map Qa p1.Facts)]), (733, .box [.sl 2 (List.map Qa j0.1), .sl 2 (List.map Qa j0.2.1), .sl 2 (List.map Qd j0.2.2.1), .sl 2 (List.map Qc j0.2.2.2.1)]), (900, .arr ⟨true, true⟩ 2 184 (List.map Qa r85.2.1)), (901, .arr ⟨true, true⟩ 2 184 (List.map Qa r85.2.2.1)), (902, .arr ⟨true, true⟩ 2 40 (List.map Qd r85.2.2.2.1)), (903, .arr ⟨true, true⟩ 2 81 (List.map Qc r85.2.2.2.2)), (904, .box [.ow 900, .ow 901, .ow 902, .ow 903]), (1965, .arr ⟨false, true⟩ 2 184 (List.map Qa r96.Pre)), (1966, .arr ⟨false, true⟩ 2 184 (List.map Qa r96.Post)), (1967, .arr ⟨false, true⟩ 2 40 (List.map Qd r96.Code)), (1968, .arr ⟨false, true⟩ 2 81 (List.map Qc r96.Points)), (2125, .arr ⟨false, true⟩ 2 184 (List.map Qa r98.Facts)), (2205, .arr ⟨false, true⟩ 2 184 (List.map Qa r99.1.Pre)), (2206, .arr ⟨false, true⟩ 2 184 (List.map Qa r99.1.Post)), (2207, .arr ⟨false, true⟩ 2 40 (List.map Qd r99.1.Code)), (2208, .arr ⟨false, true⟩ 2 81 (List.map Qc r99.1.Points))]⟩ ?_ (fun hS1804_0 => ?_)
              ·refine Qn 5 (by kernel_rfl) rfl rfl rfl rfl rfl (Qi rfl) ?_
               refine Qn 6 (by kernel_rfl) rfl rfl rfl rfl rfl (op_extract rfl rfl) ?_
               refine Qn 7 (by kernel_rfl) rfl rfl rfl rfl rfl (op_extract rfl rfl) ?_
               refine Qs 8 (by kernel_rfl) rfl ?_
               refine QJ 2525 z69 rfl rfl rfl rfl rfl rfl rfl ?_
               refine Qe ?_
               refine Qs 9 (by kernel_rfl) rfl ?_
               refine Qo sz69 rfl rfl rfl rfl rfl rfl rfl rfl rfl ?_
               refine Qe ?_
               refine Qn 10 (by kernel_rfl) rfl rfl rfl rfl rfl (Qh rfl) ?_
               refine QX (by kernel_rfl) ?_
               refine Qm [6, 7, 10, 13, 15, 16] [733, 900, 901, 902, 903, 904, 2205, 2206, 2207, 2208, 2525] rfl rfl rfl rfl (by rw [hF]; rfl) ?_
               refine T_ren [(733, 733), (900, 900), (901, 901), (902, 902), (903, 903), (904, 904), (2205, 1325), (2206, 1326), (2207, 1327), (2208, 1328), (2525, 1645)] rfl rfl rfl (by rw [hF]; rfl) ?_
               exact hj1 (r99.1.Pre, r99.1.Post, r99.1.Code, r99.1.Points, r99.2) hm
              refine Qy 6 [true, true, true, true, false, false, false, false, true, false, false] ⟨[(2, .ptr 11 0 0), (3, .ptr 12 0 0), (6, .ptr 733 0 0), (7, .bool j0.2.2.2.2), (10, .ptr 904 0 0), (13, .int .i64 r85.1), (14, .int .i64 r88), (15, .ptr 2525 0 0), (82, .bool ((!r75) || (!(r42.2 == j0.2.2.2.2)))), (83, .agg [.ow 900, .ow 901, .ow 902, .ow 903]), (84, .int .i64 (1 : Int)), (85, .int .i64 r85.1), (86, .agg [.ow 900, .ow 901, .ow 902, .ow 903]), (87, .int .i64 (1 : Int)), (88, .int .i64 r88), (89, .int .i64 r88), (90, .bool (decide (r88 < (0 : Int)))), (91, .int .i64 r88), (92, .int .i64 r85.1), (93, .bool (!decide (r88 = r85.1))), (95, .agg [.sl 2 (List.map Qa p0.Pre), .sl 2 (List.map Qa p0.Post), .sl 2 (List.map Qd p0.Code), .sl 2 (List.map Qc p0.Points)]), (96, .agg [.ow 1965, .ow 1966, .ow 1967, .ow 1968]), (97, .agg [.int .i64 p1.At, .sl 2 (List.map Qa p1.Facts)]), (98, .agg [.int .i64 r98.At, .ow 2125])], [(11, .box [.sl 2 (List.map Qa p0.Pre), .sl 2 (List.map Qa p0.Post), .sl 2 (List.map Qd p0.Code), .sl 2 (List.map Qc p0.Points)]), (12, .box [.int .i64 p1.At, .sl 2 (List.map Qa p1.Facts)]), (733, .box [.sl 2 (List.map Qa j0.1), .sl 2 (List.map Qa j0.2.1), .sl 2 (List.map Qd j0.2.2.1), .sl 2 (List.map Qc j0.2.2.2.1)]), (900, .arr ⟨true, true⟩ 2 184 (List.map Qa r85.2.1)), (901, .arr ⟨true, true⟩ 2 184 (List.map Qa r85.2.2.1)), (902, .arr ⟨true, true⟩ 2 40 (List.map Qd r85.2.2.2.1)), (903, .arr ⟨true, true⟩ 2 81 (List.map Qc r85.2.2.2.2)), (904, .box [.ow 900, .ow 901, .ow 902, .ow 903]), (1965, .arr ⟨false, true⟩ 2 184 (List.map Qa r96.Pre)), (1966, .arr ⟨false, true⟩ 2 184 (List.map Qa r96.Post)), (1967, .arr ⟨false, true⟩ 2 40 (List.map Qd r96.Code)), (1968, .arr ⟨false, true⟩ 2 81 (List.map Qc r96.Points)), (2125, .arr ⟨false, true⟩ 2 184 (List.map Qa r98.Facts)), (2525, .box [.snil, .snil, .snil, .snil])]⟩ ?_ (fun hS1804_1 => ?_)
              ·refine Qs 4 (by kernel_rfl) rfl ?_
               refine Qt [(1000, 2205), (1001, 2206), (1002, 2207), (1003, 2208)] (ACall.F (F := F) (c_impl_AddPoint r96 r98 r99 hr99)) Try.call53 rfl rfl rfl rfl rfl rfl rfl rfl rfl rfl rfl rfl rfl ?_
               refine Qe ?_
               refine Qn 5 (by kernel_rfl) rfl rfl rfl rfl rfl (Qi rfl) ?_
               refine Qn 6 (by kernel_rfl) rfl rfl rfl rfl rfl (op_extract rfl rfl) ?_
               refine Qn 7 (by kernel_rfl) rfl rfl rfl rfl rfl (op_extract rfl rfl) ?_
               refine Qs 9 (by kernel_rfl) rfl ?_
               refine Qo sz69 rfl rfl rfl rfl rfl rfl rfl rfl rfl ?_
               refine Qe ?_
               refine Qn 10 (by kernel_rfl) rfl rfl rfl rfl rfl (Qh rfl) ?_
               refine QX (by kernel_rfl) ?_
               refine Qm [6, 7, 10, 13, 15, 16] [733, 900, 901, 902, 903, 904, 2205, 2206, 2207, 2208, 2525] rfl rfl rfl rfl (by rw [hF]; rfl) ?_
               refine T_ren [(733, 733), (900, 900), (901, 901), (902, 902), (903, 903), (904, 904), (2205, 1325), (2206, 1326), (2207, 1327), (2208, 1328), (2525, 1645)] rfl rfl rfl (by rw [hF]; rfl) ?_
               exact hj1 (r99.1.Pre, r99.1.Post, r99.1.Code, r99.1.Points, r99.2) hm
              refine Qy 7 [true, true, true, true, false, false, false, false, false, false, false] ⟨[(2, .ptr 11 0 0), (3, .ptr 12 0 0), (6, .ptr 733 0 0), (7, .bool j0.2.2.2.2), (10, .ptr 904 0 0), (13, .int .i64 r85.1), (14, .int .i64 r88), (82, .bool ((!r75) || (!(r42.2 == j0.2.2.2.2)))), (83, .agg [.ow 900, .ow 901, .ow 902, .ow 903]), (84, .int .i64 (1 : Int)), (85, .int .i64 r85.1), (86, .agg [.ow 900, .ow 901, .ow 902, .ow 903]), (87, .int .i64 (1 : Int)), (88, .int .i64 r88), (89, .int .i64 r88), (90, .bool (decide (r88 < (0 : Int)))), (91, .int .i64 r88), (92, .int .i64 r85.1), (93, .bool (!decide (r88 = r85.1))), (95, .agg [.sl 2 (List.map Qa p0.Pre), .sl 2 (List.map Qa p0.Post), .sl 2 (List.map Qd p0.Code), .sl 2 (List.map Qc p0.Points)]), (96, .agg [.ow 1965, .ow 1966, .ow 1967, .ow 1968]), (97, .agg [.int .i64 p1.At, .sl 2 (List.map Qa p1.Facts)]), (98, .agg [.int .i64 r98.At, .ow 2125])], [(11, .box [.sl 2 (List.map Qa p0.Pre), .sl 2 (List.map Qa p0.Post), .sl 2 (List.map Qd p0.Code), .sl 2 (List.map Qc p0.Points)]), (12, .box [.int .i64 p1.At, .sl 2 (List.map Qa p1.Facts)]), (733, .box [.sl 2 (List.map Qa j0.1), .sl 2 (List.map Qa j0.2.1), .sl 2 (List.map Qd j0.2.2.1), .sl 2 (List.map Qc j0.2.2.2.1)]), (900, .arr ⟨true, true⟩ 2 184 (List.map Qa r85.2.1)), (901, .arr ⟨true, true⟩ 2 184 (List.map Qa r85.2.2.1)), (902, .arr ⟨true, true⟩ 2 40 (List.map Qd r85.2.2.2.1)), (903, .arr ⟨true, true⟩ 2 81 (List.map Qc r85.2.2.2.2)), (904, .box [.ow 900, .ow 901, .ow 902, .ow 903]), (1965, .arr ⟨false, true⟩ 2 184 (List.map Qa r96.Pre)), (1966, .arr ⟨false, true⟩ 2 184 (List.map Qa r96.Post)), (1967, .arr ⟨false, true⟩ 2 40 (List.map Qd r96.Code)), (1968, .arr ⟨false, true⟩ 2 81 (List.map Qc r96.Points)), (2125, .arr ⟨false, true⟩ 2 184 (List.map Qa r98.Facts))]⟩ ?_ (fun hS1804_2 => ?_)
              ·refine Qz [4, 8] (by kernel_rfl) rfl ?_
               refine ⟨?_, ?_⟩
               ·refine ⟨_, rfl, ?_⟩
                refine Qt [(1000, 2205), (1001, 2206), (1002, 2207), (1003, 2208)] (ACall.F (F := F) (c_impl_AddPoint r96 r98 r99 hr99)) Try.call53 rfl rfl rfl rfl rfl rfl rfl rfl rfl rfl rfl rfl rfl ?_
                refine Qe ?_
                refine Ql [2, 3, 6, 7, 10, 13, 14, 82, 83, 84, 85, 86, 87, 88, 89, 90, 91, 92, 93, 95, 96, 97, 98, 99] [11, 12, 733, 900, 901, 902, 903, 904, 1965, 1966, 1967, 1968, 2125, 2205, 2206, 2207, 2208] rfl rfl rfl rfl (by rw [hF]; rfl) ?_
                exact hS1804_0
               ·refine ⟨_, rfl, ?_⟩
                refine QJ 2525 z69 rfl rfl rfl rfl rfl rfl rfl ?_
                refine Qe ?_
                refine Ql [2, 3, 6, 7, 10, 13, 14, 15, 82, 83, 84, 85, 86, 87, 88, 89, 90, 91, 92, 93, 95, 96, 97, 98] [11, 12, 733, 900, 901, 902, 903, 904, 1965, 1966, 1967, 1968, 2125, 2525] rfl rfl rfl rfl (by rw [hF]; rfl) ?_
                exact hS1804_1
              refine Qy 7 [true, true, true, false, false, false, false, false, true, false, false] ⟨[(2, .ptr 11 0 0), (3, .ptr 12 0 0), (6, .ptr 733 0 0), (7, .bool j0.2.2.2.2), (10, .ptr 904 0 0), (13, .int .i64 r85.1), (14, .int .i64 r88), (15, .ptr 2525 0 0), (82, .bool ((!r75) || (!(r42.2 == j0.2.2.2.2)))), (83, .agg [.ow 900, .ow 901, .ow 902, .ow 903]), (84, .int .i64 (1 : Int)), (85, .int .i64 r85.1), (86, .agg [.ow 900, .ow 901, .ow 902, .ow 903]), (87, .int .i64 (1 : Int)), (88, .int .i64 r88), (89, .int .i64 r88), (90, .bool (decide (r88 < (0 : Int)))), (91, .int .i64 r88), (92, .int .i64 r85.1), (93, .bool (!decide (r88 = r85.1))), (95, .agg [.sl 2 (List.map Qa p0.Pre), .sl 2 (List.map Qa p0.Post), .sl 2 (List.map Qd p0.Code), .sl 2 (List.map Qc p0.Points)]), (96, .agg [.ow 1965, .ow 1966, .ow 1967, .ow 1968]), (97, .agg [.int .i64 p1.At, .sl 2 (List.map Qa p1.Facts)])], [(11, .box [.sl 2 (List.map Qa p0.Pre), .sl 2 (List.map Qa p0.Post), .sl 2 (List.map Qd p0.Code), .sl 2 (List.map Qc p0.Points)]), (12, .box [.int .i64 p1.At, .sl 2 (List.map Qa p1.Facts)]), (733, .box [.sl 2 (List.map Qa j0.1), .sl 2 (List.map Qa j0.2.1), .sl 2 (List.map Qd j0.2.2.1), .sl 2 (List.map Qc j0.2.2.2.1)]), (900, .arr ⟨true, true⟩ 2 184 (List.map Qa r85.2.1)), (901, .arr ⟨true, true⟩ 2 184 (List.map Qa r85.2.2.1)), (902, .arr ⟨true, true⟩ 2 40 (List.map Qd r85.2.2.2.1)), (903, .arr ⟨true, true⟩ 2 81 (List.map Qc r85.2.2.2.2)), (904, .box [.ow 900, .ow 901, .ow 902, .ow 903]), (1965, .arr ⟨false, true⟩ 2 184 (List.map Qa r96.Pre)), (1966, .arr ⟨false, true⟩ 2 184 (List.map Qa r96.Post)), (1967, .arr ⟨false, true⟩ 2 40 (List.map Qd r96.Code)), (1968, .arr ⟨false, true⟩ 2 81 (List.map Qc r96.Points)), (2525, .box [.snil, .snil, .snil, .snil])]⟩ ?_ (fun hS1804_3 => ?_)
              ·refine Qs 3 (by kernel_rfl) rfl ?_
               refine Qt [(1000, 2125)] (ACall.F (F := F) (c_laws_toPoint p1 r98 hr98)) Try.call52 rfl rfl rfl rfl rfl rfl rfl rfl rfl rfl rfl rfl rfl ?_
               refine Qe ?_
               refine Qs 4 (by kernel_rfl) rfl ?_
               refine Qt [(1000, 2205), (1001, 2206), (1002, 2207), (1003, 2208)] (ACall.F (F := F) (c_impl_AddPoint r96 r98 r99 hr99)) Try.call53 rfl rfl rfl rfl rfl rfl rfl rfl rfl rfl rfl rfl rfl ?_
               refine Qe ?_
               refine Qn 5 (by kernel_rfl) rfl rfl rfl rfl rfl (Qi rfl) ?_
               refine Qn 6 (by kernel_rfl) rfl rfl rfl rfl rfl (op_extract rfl rfl) ?_
               refine Qn 7 (by kernel_rfl) rfl rfl rfl rfl rfl (op_extract rfl rfl) ?_
               refine Qs 9 (by kernel_rfl) rfl ?_
               refine Qo sz69 rfl rfl rfl rfl rfl rfl rfl rfl rfl ?_
               refine Qe ?_
               refine Qn 10 (by kernel_rfl) rfl rfl rfl rfl rfl (Qh rfl) ?_
               refine QX (by kernel_rfl) ?_
               refine Qm [6, 7, 10, 13, 15, 16] [733, 900, 901, 902, 903, 904, 2205, 2206, 2207, 2208, 2525] rfl rfl rfl rfl (by rw [hF]; rfl) ?_
               refine T_ren [(733, 733), (900, 900), (901, 901), (902, 902), (903, 903), (904, 904), (2205, 1325), (2206, 1326), (2207, 1327), (2208, 1328), (2525, 1645)] rfl rfl rfl (by rw [hF]; rfl) ?_
               exact hj1 (r99.1.Pre, r99.1.Post, r99.1.Code, r99.1.Points, r99.2) hm
              refine Qy 8 [true, true, true, false, false, false, false, false, false, false, false] ⟨[(2, .ptr 11 0 0), (3, .ptr 12 0 0), (6, .ptr 733 0 0), (7, .bool j0.2.2.2.2), (10, .ptr 904 0 0), (13, .int .i64 r85.1), (14, .int .i64 r88), (82, .bool ((!r75) || (!(r42.2 == j0.2.2.2.2)))), (83, .agg [.ow 900, .ow 901, .ow 902, .ow 903]), (84, .int .i64 (1 : Int)), (85, .int .i64 r85.1), (86, .agg [.ow 900, .ow 901, .ow 902, .ow 903]), (87, .int .i64 (1 : Int)), (88, .int .i64 r88), (89, .int .i64 r88), (90, .bool (decide (r88 < (0 : Int)))), (91, .int .i64 r88), (92, .int .i64 r85.1), (93, .bool (!decide (r88 = r85.1))), (95, .agg [.sl 2 (List.map Qa p0.Pre), .sl 2 (List.map Qa p0.Post), .sl 2 (List.map Qd p0.Code), .sl 2 (List.map Qc p0.Points)]), (96, .agg [.ow 1965, .ow 1966, .ow 1967, .ow 1968]), (97, .agg [.int .i64 p1.At, .sl 2 (List.map Qa p1.Facts)])], [(11, .box [.sl 2 (List.map Qa p0.Pre), .sl 2 (List.map Qa p0.Post), .sl 2 (List.map Qd p0.Code), .sl 2 (List.map Qc p0.Points)]), (12, .box [.int .i64 p1.At, .sl 2 (List.map Qa p1.Facts)]), (733, .box [.sl 2 (List.map Qa j0.1), .sl 2 (List.map Qa j0.2.1), .sl 2 (List.map Qd j0.2.2.1), .sl 2 (List.map Qc j0.2.2.2.1)]), (900, .arr ⟨true, true⟩ 2 184 (List.map Qa r85.2.1)), (901, .arr ⟨true, true⟩ 2 184 (List.map Qa r85.2.2.1)), (902, .arr ⟨true, true⟩ 2 40 (List.map Qd r85.2.2.2.1)), (903, .arr ⟨true, true⟩ 2 81 (List.map Qc r85.2.2.2.2)), (904, .box [.ow 900, .ow 901, .ow 902, .ow 903]), (1965, .arr ⟨false, true⟩ 2 184 (List.map Qa r96.Pre)), (1966, .arr ⟨false, true⟩ 2 184 (List.map Qa r96.Post)), (1967, .arr ⟨false, true⟩ 2 40 (List.map Qd r96.Code)), (1968, .arr ⟨false, true⟩ 2 81 (List.map Qc r96.Points))]⟩ ?_ (fun hS1804_4 => ?_)
              ·refine Qz [3, 8] (by kernel_rfl) rfl ?_
               refine ⟨?_, ?_⟩
               ·refine ⟨_, rfl, ?_⟩
                refine Qt [(1000, 2125)] (ACall.F (F := F) (c_laws_toPoint p1 r98 hr98)) Try.call52 rfl rfl rfl rfl rfl rfl rfl rfl rfl rfl rfl rfl rfl ?_
                refine Qe ?_
                refine Ql [2, 3, 6, 7, 10, 13, 14, 82, 83, 84, 85, 86, 87, 88, 89, 90, 91, 92, 93, 95, 96, 97, 98] [11, 12, 733, 900, 901, 902, 903, 904, 1965, 1966, 1967, 1968, 2125] rfl rfl rfl rfl (by rw [hF]; rfl) ?_
                exact hS1804_2
               ·refine ⟨_, rfl, ?_⟩
                refine QJ 2525 z69 rfl rfl rfl rfl rfl rfl rfl ?_
                refine Qe ?_
                refine Ql [2, 3, 6, 7, 10, 13, 14, 15, 82, 83, 84, 85, 86, 87, 88, 89, 90, 91, 92, 93, 95, 96, 97] [11, 12, 733, 900, 901, 902, 903, 904, 1965, 1966, 1967, 1968, 2525] rfl rfl rfl rfl (by rw [hF]; rfl) ?_
                exact hS1804_3
              refine Qy 8 [true, false, true, false, false, false, false, false, true, false, false] ⟨[(2, .ptr 11 0 0), (3, .ptr 12 0 0), (6, .ptr 733 0 0), (7, .bool j0.2.2.2.2), (10, .ptr 904 0 0), (13, .int .i64 r85.1), (14, .int .i64 r88), (15, .ptr 2525 0 0), (82, .bool ((!r75) || (!(r42.2 == j0.2.2.2.2)))), (83, .agg [.ow 900, .ow 901, .ow 902, .ow 903]), (84, .int .i64 (1 : Int)), (85, .int .i64 r85.1), (86, .agg [.ow 900, .ow 901, .ow 902, .ow 903]), (87, .int .i64 (1 : Int)), (88, .int .i64 r88), (89, .int .i64 r88), (90, .bool (decide (r88 < (0 : Int)))), (91, .int .i64 r88), (92, .int .i64 r85.1), (93, .bool (!decide (r88 = r85.1))), (95, .agg [.sl 2 (List.map Qa p0.Pre), .sl 2 (List.map Qa p0.Post), .sl 2 (List.map Qd p0.Code), .sl 2 (List.map Qc p0.Points)]), (97, .agg [.int .i64 p1.At, .sl 2 (List.map Qa p1.Facts)])], [(11, .box [.sl 2 (List.map Qa p0.Pre), .sl 2 (List.map Qa p0.Post), .sl 2 (List.map Qd p0.Code), .sl 2 (List.map Qc p0.Points)]), (12, .box [.int .i64 p1.At, .sl 2 (List.map Qa p1.Facts)]), (733, .box [.sl 2 (List.map Qa j0.1), .sl 2 (List.map Qa j0.2.1), .sl 2 (List.map Qd j0.2.2.1), .sl 2 (List.map Qc j0.2.2.2.1)]), (900, .arr ⟨true, true⟩ 2 184 (List.map Qa r85.2.1)), (901, .arr ⟨true, true⟩ 2 184 (List.map Qa r85.2.2.1)), (902, .arr ⟨true, true⟩ 2 40 (List.map Qd r85.2.2.2.1)), (903, .arr ⟨true, true⟩ 2 81 (List.map Qc r85.2.2.2.2)), (904, .box [.ow 900, .ow 901, .ow 902, .ow 903]), (2525, .box [.snil, .snil, .snil, .snil])]⟩ ?_ (fun hS1804_5 => ?_)
              ·refine Qs 1 (by kernel_rfl) rfl ?_
               refine Qt [(1000, 1965), (1001, 1966), (1002, 1967), (1003, 1968)] (ACall.F (F := F) (c_laws_toAnnotated p0 r96 hr96)) Try.call43 rfl rfl rfl rfl rfl rfl rfl rfl rfl rfl rfl rfl rfl ?_
               refine Qe ?_
               refine Qs 3 (by kernel_rfl) rfl ?_
               refine Qt [(1000, 2125)] (ACall.F (F := F) (c_laws_toPoint p1 r98 hr98)) Try.call52 rfl rfl rfl rfl rfl rfl rfl rfl rfl rfl rfl rfl rfl ?_
               refine Qe ?_
               refine Qs 4 (by kernel_rfl) rfl ?_
               refine Qt [(1000, 2205), (1001, 2206), (1002, 2207), (1003, 2208)] (ACall.F (F := F) (c_impl_AddPoint r96 r98 r99 hr99)) Try.call53 rfl rfl rfl rfl rfl rfl rfl rfl rfl rfl rfl rfl rfl ?_
               refine Qe ?_
               refine Qn 5 (by kernel_rfl) rfl rfl rfl rfl rfl (Qi rfl) ?_
               refine Qn 6 (by kernel_rfl) rfl rfl rfl rfl rfl (op_extract rfl rfl) ?_
               refine Qn 7 (by kernel_rfl) rfl rfl rfl rfl rfl (op_extract rfl rfl) ?_
               refine Qs 9 (by kernel_rfl) rfl ?_
               refine Qo sz69 rfl rfl rfl rfl rfl rfl rfl rfl rfl ?_
               refine Qe ?_
               refine Qn 10 (by kernel_rfl) rfl rfl rfl rfl rfl (Qh rfl) ?_
               refine QX (by kernel_rfl) ?_
               refine Qm [6, 7, 10, 13, 15, 16] [733, 900, 901, 902, 903, 904, 2205, 2206, 2207, 2208, 2525] rfl rfl rfl rfl (by rw [hF]; rfl) ?_
               refine T_ren [(733, 733), (900, 900), (901, 901), (902, 902), (903, 903), (904, 904), (2205, 1325), (2206, 1326), (2207, 1327), (2208, 1328), (2525, 1645)] rfl rfl rfl (by rw [hF]; rfl) ?_
               exact hj1 (r99.1.Pre, r99.1.Post, r99.1.Code, r99.1.Points, r99.2) hm
              refine Qz [1, 8] (by kernel_rfl) rfl ?_
              refine ⟨?_, ?_⟩
              ·refine ⟨_, rfl, ?_⟩
               refine Qt [(1000, 1965), (1001, 1966), (1002, 1967), (1003, 1968)] (ACall.F (F := F) (c_laws_toAnnotated p0 r96 hr96)) Try.call43 rfl rfl rfl rfl rfl rfl rfl rfl rfl rfl rfl rfl rfl ?_
               refine Qe ?_
               refine Ql [2, 3, 6, 7, 10, 13, 14, 82, 83, 84, 85, 86, 87, 88, 89, 90, 91, 92, 93, 95, 96, 97] [11, 12, 733, 900, 901, 902, 903, 904, 1965, 1966, 1967, 1968] rfl rfl rfl rfl (by rw [hF]; rfl) ?_
               exact hS1804_4
              ·refine ⟨_, rfl, ?_⟩
               refine QJ 2525 z69 rfl rfl rfl rfl rfl rfl rfl ?_
               refine Qe ?_
               refine Ql [2, 3, 6, 7, 10, 13, 14, 15, 82, 83, 84, 85, 86, 87, 88, 89, 90, 91, 92, 93, 95, 97] [11, 12, 733, 900, 901, 902, 903, 904, 2525] rfl rfl rfl rfl (by rw [hF]; rfl) ?_
               exact hS1804_5
         ·refine TL_split 78 rfl rfl rfl (fun hq => ?_) (fun hq => ?_)
          ·refine Qq rfl rfl rfl rfl rfl rfl rfl ?_
           refine Qq rfl rfl rfl rfl rfl rfl rfl ?_
           refine Qq rfl rfl rfl rfl rfl rfl rfl ?_
           refine Qb rfl rfl rfl rfl (QC rfl rfl) ?_
           refine TL_keepH [2, 3, 6, 7, 10, 82] [11, 12, 733, 900, 901, 902, 903, 904] rfl rfl rfl rfl (by rw [hF]; rfl) ?_
           exact TL_cast _ (by first | (rw [hq, Bool.true_or]; done) | (rw [hq]; rfl)) (hjj () trivial)
          ·refine Qx rfl rfl ?_
           refine Qb rfl rfl rfl rfl (Qi rfl) ?_
           refine Qx rfl rfl ?_
           refine Qb rfl rfl rfl rfl (Qi rfl) ?_
           refine Qx rfl rfl ?_
           refine Qb rfl rfl rfl rfl (op_neqB Try.underlying4 rfl rfl) ?_
           refine Qb rfl rfl rfl rfl (QB rfl rfl) ?_
           refine TL_keepH [2, 3, 6, 7, 10, 82] [11, 12, 733, 900, 901, 902, 903, 904] rfl rfl rfl rfl (by rw [hF]; rfl) ?_
           exact TL_cast _ (by first | (rw [hq, Bool.false_or]; done) | (rw [hq]; rfl)) (hjj () trivial)
    ·refine TL_split 49 rfl rfl rfl (fun hq => ?_) (fun hq => ?_)
     ·refine Qq rfl rfl rfl rfl rfl rfl rfl ?_
      refine Qq rfl rfl rfl rfl rfl rfl rfl ?_
      refine Qq rfl rfl rfl rfl rfl rfl rfl ?_
      refine Qb rfl rfl rfl rfl (QC rfl rfl) ?_
      refine TL_keepH [2, 3, 6, 7, 8, 9, 10, 11, 53] [11, 12, 733, 893, 894, 895, 896, 897, 898, 899, 900, 901, 902, 903, 904] rfl rfl rfl rfl (by rw [hF]; rfl) ?_
      exact TL_cast _ (by first | (rw [hq, Bool.true_or]; done) | (rw [hq]; rfl)) (hjj () trivial)
     ·refine Qx rfl rfl ?_
      refine Qb rfl rfl rfl rfl (Qi rfl) ?_
      refine Qx rfl rfl ?_
      refine Qb rfl rfl rfl rfl (Qi rfl) ?_
      refine Qx rfl rfl ?_
      refine Qb rfl rfl rfl rfl (op_neqB Try.underlying4 rfl rfl) ?_
      refine Qb rfl rfl rfl rfl (QB rfl rfl) ?_
      refine TL_keepH [2, 3, 6, 7, 8, 9, 10, 11, 53] [11, 12, 733, 893, 894, 895, 896, 897, 898, 899, 900, 901, 902, 903, 904] rfl rfl rfl rfl (by rw [hF]; rfl) ?_
      exact TL_cast _ (by first | (rw [hq, Bool.false_or]; done) | (rw [hq]; rfl)) (hjj () trivial)
   ·refine T_drawZ [9] mix (by kernel_rfl) rfl ?_
    obtain ⟨r29, hr29, hm⟩ := Qw hm
    obtain ⟨r31, hr31, hm⟩ := Qw hm
    obtain ⟨r32, hr32, hm⟩ := Qw hm
    refine Qn 0 (by kernel_rfl) rfl rfl rfl rfl rfl (Qv ag64 sz64 rfl rfl rfl) ?_
    refine Qn 2 (by kernel_rfl) rfl rfl rfl rfl rfl (Qv ag77 sz77 rfl rfl rfl) ?_
    refine Qy 6 [true, true, true, true, true, false, false, false, false, false, false] ⟨[(0, .agg [.sl 2 (List.map Qa p0.Pre), .sl 2 (List.map Qa p0.Post), .sl 2 (List.map Qd p0.Code), .sl 2 (List.map Qc p0.Points)]), (1, .agg [.int .i64 p1.At, .sl 2 (List.map Qa p1.Facts)]), (2, .ptr 11 0 0), (3, .ptr 12 0 0), (4, .bool false), (5, .int .i64 r24), (17, .agg [.sl 2 (List.map Qa p0.Pre), .sl 2 (List.map Qa p0.Post), .sl 2 (List.map Qd p0.Code), .sl 2 (List.map Qc p0.Points)]), (18, .int .i64 (1048576 : Int)), (19, .int .i64 r19), (20, .int .i64 r19), (21, .bool (decide (r19 < (0 : Int)))), (22, .agg [.int .i64 p1.At, .sl 2 (List.map Qa p1.Facts)]), (23, .int .i64 r19), (24, .int .i64 r24), (25, .int .i64 r24), (26, .bool (decide (r24 < (0 : Int)))), (28, .agg [.sl 2 (List.map Qa p0.Pre), .sl 2 (List.map Qa p0.Post), .sl 2 (List.map Qd p0.Code), .sl 2 (List.map Qc p0.Points)]), (29, .agg [.sl 2 (List.map Qa r29.Pre), .sl 2 (List.map Qa r29.Post), .sl 2 (List.map Qd r29.Code), .sl 2 (List.map Qc r29.Points)]), (30, .agg [.int .i64 p1.At, .sl 2 (List.map Qa p1.Facts)]), (31, .agg [.int .i64 r31.At, .sl 2 (List.map Qa r31.Facts)]), (32, .tup [.agg [.sl 2 (List.map Qa r32.1.Pre), .sl 2 (List.map Qa r32.1.Post), .sl 2 (List.map Qd r32.1.Code), .sl 2 (List.map Qc r32.1.Points)], .bool r32.2])], [(11, .box [.sl 2 (List.map Qa p0.Pre), .sl 2 (List.map Qa p0.Post), .sl 2 (List.map Qd p0.Code), .sl 2 (List.map Qc p0.Points)]), (12, .box [.int .i64 p1.At, .sl 2 (List.map Qa p1.Facts)])]⟩ ?_ (fun hS2684_0 => ?_)
    ·refine Qn 5 (by kernel_rfl) rfl rfl rfl rfl rfl (Qi rfl) ?_
     refine Qn 6 (by kernel_rfl) rfl rfl rfl rfl rfl (op_extract rfl rfl) ?_
     refine Qn 7 (by kernel_rfl) rfl rfl rfl rfl rfl (op_extract rfl rfl) ?_
     refine Qs 8 (by kernel_rfl) rfl ?_
     refine QJ 3405 z69 rfl rfl rfl rfl rfl rfl rfl ?_
     refine Qe ?_
     refine Qs 9 (by kernel_rfl) rfl ?_
     refine Qo sz69 rfl rfl rfl rfl rfl rfl rfl rfl rfl ?_
     refine Qe ?_
     refine Qn 10 (by kernel_rfl) rfl rfl rfl rfl rfl (Qh rfl) ?_
     refine QX (by kernel_rfl) ?_
     refine Qm [2, 3, 6, 7] [11, 12, 3405] rfl rfl rfl rfl (by rw [hF]; rfl) ?_
     refine T_ren [(11, 11), (12, 12), (3405, 733)] rfl rfl rfl (by rw [hF]; rfl) ?_
     exact hj0 (r32.1.Pre, r32.1.Post, r32.1.Code, r32.1.Points, r32.2) hm
    refine Qy 6 [true, true, true, true, false, false, false, false, true, false, false] ⟨[(0, .agg [.sl 2 (List.map Qa p0.Pre), .sl 2 (List.map Qa p0.Post), .sl 2 (List.map Qd p0.Code), .sl 2 (List.map Qc p0.Points)]), (1, .agg [.int .i64 p1.At, .sl 2 (List.map Qa p1.Facts)]), (2, .ptr 11 0 0), (3, .ptr 12 0 0), (4, .bool false), (5, .int .i64 r24), (6, .ptr 3405 0 0), (17, .agg [.sl 2 (List.map Qa p0.Pre), .sl 2 (List.map Qa p0.Post), .sl 2 (List.map Qd p0.Code), .sl 2 (List.map Qc p0.Points)]), (18, .int .i64 (1048576 : Int)), (19, .int .i64 r19), (20, .int .i64 r19), (21, .bool (decide (r19 < (0 : Int)))), (22, .agg [.int .i64 p1.At, .sl 2 (List.map Qa p1.Facts)]), (23, .int .i64 r19), (24, .int .i64 r24), (25, .int .i64 r24), (26, .bool (decide (r24 < (0 : Int)))), (28, .agg [.sl 2 (List.map Qa p0.Pre), .sl 2 (List.map Qa p0.Post), .sl 2 (List.map Qd p0.Code), .sl 2 (List.map Qc p0.Points)]), (29, .agg [.ow 2845, .ow 2846, .ow 2847, .ow 2848]), (30, .agg [.int .i64 p1.At, .sl 2 (List.map Qa p1.Facts)]), (31, .agg [.int .i64 r31.At, .ow 3005])], [(11, .box [.sl 2 (List.map Qa p0.Pre), .sl 2 (List.map Qa p0.Post), .sl 2 (List.map Qd p0.Code), .sl 2 (List.map Qc p0.Points)]), (12, .box [.int .i64 p1.At, .sl 2 (List.map Qa p1.Facts)]), (2845, .arr ⟨false, true⟩ 2 184 (List.map Qa r29.Pre)), (2846, .arr ⟨false, true⟩ 2 184 (List.map Qa r29.Post)), (2847, .arr ⟨false, true⟩ 2 40 (List.map Qd r29.Code)), (2848, .arr ⟨false, true⟩ 2 81 (List.map Qc r29.Points)), (3005, .arr ⟨false, true⟩ 2 184 (List.map Qa r31.Facts)), (3405, .box [.snil, .snil, .snil, .snil])]⟩ ?_ (fun hS2684_1 => ?_)
    ·refine Qs 4 (by kernel_rfl) rfl ?_
     refine TL_freeze 2845 (by rw [hF]; rfl) rfl rfl rfl ?_
     refine TL_freeze 2846 (by rw [hF]; rfl) rfl rfl rfl ?_
     refine TL_freeze 2847 (by rw [hF]; rfl) rfl rfl rfl ?_
     refine TL_freeze 2848 (by rw [hF]; rfl) rfl rfl rfl ?_
     refine TL_freeze 3005 (by rw [hF]; rfl) rfl rfl rfl ?_
     refine TL_callT (ACall.F (F := F) (c_spec_AddPoint r29 r31 r32 hr32)) Try.call51 rfl rfl rfl rfl rfl ?_
     refine Qe ?_
     refine Qn 5 (by kernel_rfl) rfl rfl rfl rfl rfl (Qi rfl) ?_
     refine Qn 6 (by kernel_rfl) rfl rfl rfl rfl rfl (op_extract rfl rfl) ?_
     refine Qn 7 (by kernel_rfl) rfl rfl rfl rfl rfl (op_extract rfl rfl) ?_
     refine Qs 9 (by kernel_rfl) rfl ?_
     refine Qo sz69 rfl rfl rfl rfl rfl rfl rfl rfl rfl ?_
     refine Qe ?_
     refine Qn 10 (by kernel_rfl) rfl rfl rfl rfl rfl (Qh rfl) ?_
     refine QX (by kernel_rfl) ?_
     refine Qm [2, 3, 6, 7] [11, 12, 3405] rfl rfl rfl rfl (by rw [hF]; rfl) ?_
     refine T_ren [(11, 11), (12, 12), (3405, 733)] rfl rfl rfl (by rw [hF]; rfl) ?_
     exact hj0 (r32.1.Pre, r32.1.Post, r32.1.Code, r32.1.Points, r32.2) hm
    refine Qy 7 [true, true, true, true, false, false, false, false, false, false, false] ⟨[(0, .agg [.sl 2 (List.map Qa p0.Pre), .sl 2 (List.map Qa p0.Post), .sl 2 (List.map Qd p0.Code), .sl 2 (List.map Qc p0.Points)]), (1, .agg [.int .i64 p1.At, .sl 2 (List.map Qa p1.Facts)]), (2, .ptr 11 0 0), (3, .ptr 12 0 0), (4, .bool false), (5, .int .i64 r24), (17, .agg [.sl 2 (List.map Qa p0.Pre), .sl 2 (List.map Qa p0.Post), .sl 2 (List.map Qd p0.Code), .sl 2 (List.map Qc p0.Points)]), (18, .int .i64 (1048576 : Int)), (19, .int .i64 r19), (20, .int .i64 r19), (21, .bool (decide (r19 < (0 : Int)))), (22, .agg [.int .i64 p1.At, .sl 2 (List.map Qa p1.Facts)]), (23, .int .i64 r19), (24, .int .i64 r24), (25, .int .i64 r24), (26, .bool (decide (r24 < (0 : Int)))), (28, .agg [.sl 2 (List.map Qa p0.Pre), .sl 2 (List.map Qa p0.Post), .sl 2 (List.map Qd p0.Code), .sl 2 (List.map Qc p0.Points)]), (29, .agg [.ow 2845, .ow 2846, .ow 2847, .ow 2848]), (30, .agg [.int .i64 p1.At, .sl 2 (List.map Qa p1.Facts)]), (31, .agg [.int .i64 r31.At, .ow 3005])], [(11, .box [.sl 2 (List.map Qa p0.Pre), .sl 2 (List.map Qa p0.Post), .sl 2 (List.map Qd p0.Code), .sl 2 (List.map Qc p0.Points)]), (12, .box [.int .i64 p1.At, .sl 2 (List.map Qa p1.Facts)]), (2845, .arr ⟨false, true⟩ 2 184 (List.map Qa r29.Pre)), (2846, .arr ⟨false, true⟩ 2 184 (List.map Qa r29.Post)), (2847, .arr ⟨false, true⟩ 2 40 (List.map Qd r29.Code)), (2848, .arr ⟨false, true⟩ 2 81 (List.map Qc r29.Points)), (3005, .arr ⟨false, true⟩ 2 184 (List.map Qa r31.Facts))]⟩ ?_ (fun hS2684_2 => ?_)
    ·refine Qz [4, 8] (by kernel_rfl) rfl ?_
     refine ⟨?_, ?_⟩
     ·refine ⟨_, rfl, ?_⟩
      refine TL_freeze 2845 (by rw [hF]; rfl) rfl rfl rfl ?_
      refine TL_freeze 2846 (by rw [hF]; rfl) rfl rfl rfl ?_
      refine TL_freeze 2847 (by rw [hF]; rfl) rfl rfl rfl ?_
      refine TL_freeze 2848 (by rw [hF]; rfl) rfl rfl rfl ?_
      refine TL_freeze 3005 (by rw [hF]; rfl) rfl rfl rfl ?_
      refine TL_callT (ACall.F (F := F) (c_spec_AddPoint r29 r31 r32 hr32)) Try.call51 rfl rfl rfl rfl rfl ?_
      refine Qe ?_
      refine Ql [0, 1, 2, 3, 4, 5, 17, 18, 19, 20, 21, 22, 23, 24, 25, 26, 28, 29, 30, 31, 32] [11, 12] rfl rfl rfl rfl (by rw [hF]; rfl) ?_
      exact hS2684_0
     ·refine ⟨_, rfl, ?_⟩
      refine QJ 3405 z69 rfl rfl rfl rfl rfl rfl rfl ?_
      refine Qe ?_
      refine Ql [0, 1, 2, 3, 4, 5, 6, 17, 18, 19, 20, 21, 22, 23, 24, 25, 26, 28, 29, 30, 31] [11, 12, 2845, 2846, 2847, 2848, 3005, 3405] rfl rfl rfl rfl (by rw [hF]; rfl) ?_
      exact hS2684_1
    refine Qy 7 [true, true, true, false, false, false, false, false, true, false, false] ⟨[(0, .agg [.sl 2 (List.map Qa p0.Pre), .sl 2 (List.map Qa p0.Post), .sl 2 (List.map Qd p0.Code), .sl 2 (List.map Qc p0.Points)]), (1, .agg [.int .i64 p1.At, .sl 2 (List.map Qa p1.Facts)]), (2, .ptr 11 0 0), (3, .ptr 12 0 0), (4, .bool false), (5, .int .i64 r24), (6, .ptr 3405 0 0), (17, .agg [.sl 2 (List.map Qa p0.Pre), .sl 2 (List.map Qa p0.Post), .sl 2 (List.map Qd p0.Code), .sl 2 (List.map Qc p0.Points)]), (18, .int .i64 (1048576 : Int)), (19, .int .i64 r19), (20, .int .i64 r19), (21, .bool (decide (r19 < (0 : Int)))), (22, .agg [.int .i64 p1.At, .sl 2 (List.map Qa p1.Facts)]), (23, .int .i64 r19), (24, .int .i64 r24), (25, .int .i64 r24), (26, .bool (decide (r24 < (0 : Int)))), (28, .agg [.sl 2 (List.map Qa p0.Pre), .sl 2 (List.map Qa p0.Post), .sl 2 (List.map Qd p0.Code), .sl 2 (List.map Qc p0.Points)]), (29, .agg [.ow 2845, .ow 2846, .ow 2847, .ow 2848]), (30, .agg [.int .i64 p1.At, .sl 2 (List.map Qa p1.Facts)])], [(11, .box [.sl 2 (List.map Qa p0.Pre), .sl 2 (List.map Qa p0.Post), .sl 2 (List.map Qd p0.Code), .sl 2 (List.map Qc p0.Points)]), (12, .box [.int .i64 p1.At, .sl 2 (List.map Qa p1.Facts)]), (2845, .arr ⟨false, true⟩ 2 184 (List.map Qa r29.Pre)), (2846, .arr ⟨false, true⟩ 2 184 (List.map Qa r29.Post)), (2847, .arr ⟨false, true⟩ 2 40 (List.map Qd r29.Code)), (2848, .arr ⟨false, true⟩ 2 81 (List.map Qc r29.Points)), (3405, .box [.snil, .snil, .snil, .snil])]⟩ ?_ (fun hS2684_3 => ?_)
    ·refine Qs 3 (by kernel_rfl) rfl ?_
     refine Qt [(1000, 3005)] (ACall.F (F := F) (c_laws_toPoint p1 r31 hr31)) Try.call52 rfl rfl rfl rfl rfl rfl rfl rfl rfl rfl rfl rfl rfl ?_
     refine Qe ?_
     refine Qs 4 (by kernel_rfl) rfl ?_
     refine TL_freeze 2845 (by rw [hF]; rfl) rfl rfl rfl ?_
     refine TL_freeze 2846 (by rw [hF]; rfl) rfl rfl rfl ?_
     refine TL_freeze 2847 (by rw [hF]; rfl) rfl rfl rfl ?_
     refine TL_freeze 2848 (by rw [hF]; rfl) rfl rfl rfl ?_
     refine TL_freeze 3005 (by rw [hF]; rfl) rfl rfl rfl ?_
     refine TL_callT (ACall.F (F := F) (c_spec_AddPoint r29 r31 r32 hr32)) Try.call51 rfl rfl rfl rfl rfl ?_
     refine Qe ?_
     refine Qn 5 (by kernel_rfl) rfl rfl rfl rfl rfl (Qi rfl) ?_
     refine Qn 6 (by kernel_rfl) rfl rfl rfl rfl rfl (op_extract rfl rfl) ?_
     refine Qn 7 (by kernel_rfl) rfl rfl rfl rfl rfl (op_extract rfl rfl) ?_
     refine Qs 9 (by kernel_rfl) rfl ?_
     refine Qo sz69 rfl rfl rfl rfl rfl rfl rfl rfl rfl ?_
     refine Qe ?_
     refine Qn 10 (by kernel_rfl) rfl rfl rfl rfl rfl (Qh rfl) ?_
     refine QX (by kernel_rfl) ?_
     refine Qm [2, 3, 6, 7] [11, 12, 3405] rfl rfl rfl rfl (by rw [hF]; rfl) ?_
     refine T_ren [(11, 11), (12, 12), (3405, 733)] rfl rfl rfl (by rw [hF]; rfl) ?_
     exact hj0 (r32.1.Pre, r32.1.Post, r32.1.Code, r32.1.Points, r32.2) hm
    refine Qy 8 [true, true, true, false, false, false, false, false, false, false, false] ⟨[(0, .agg [.sl 2 (List.map Qa p0.Pre), .sl 2 (List.map Qa p0.Post), .sl 2 (List.map Qd p0.Code), .sl 2 (List.map Qc p0.Points)]), (1, .agg [.int .i64 p1.At, .sl 2 (List.map Qa p1.Facts)]), (2, .ptr 11 0 0), (3, .ptr 12 0 0), (4, .bool false), (5, .int .i64 r24), (17, .agg [.sl 2 (List.map Qa p0.Pre), .sl 2 (List.map Qa p0.Post), .sl 2 (List.map Qd p0.Code), .sl 2 (List.map Qc p0.Points)]), (18, .int .i64 (1048576 : Int)), (19, .int .i64 r19), (20, .int .i64 r19), (21, .bool (decide (r19 < (0 : Int)))), (22, .agg [.int .i64 p1.At, .sl 2 (List.map Qa p1.Facts)]), (23, .int .i64 r19), (24, .int .i64 r24), (25, .int .i64 r24), (26, .bool (decide (r24 < (0 : Int)))), (28, .agg [.sl 2 (List.map Qa p0.Pre), .sl 2 (List.map Qa p0.Post), .sl 2 (List.map Qd p0.Code), .sl 2 (List.map Qc p0.Points)]), (29, .agg [.ow 2845, .ow 2846, .ow 2847, .ow 2848]), (30, .agg [.int .i64 p1.At, .sl 2 (List.map Qa p1.Facts)])], [(11, .box [.sl 2 (List.map Qa p0.Pre), .sl 2 (List.map Qa p0.Post), .sl 2 (List.map Qd p0.Code), .sl 2 (List.map Qc p0.Points)]), (12, .box [.int .i64 p1.At, .sl 2 (List.map Qa p1.Facts)]), (2845, .arr ⟨false, true⟩ 2 184 (List.map Qa r29.Pre)), (2846, .arr ⟨false, true⟩ 2 184 (List.map Qa r29.Post)), (2847, .arr ⟨false, true⟩ 2 40 (List.map Qd r29.Code)), (2848, .arr ⟨false, true⟩ 2 81 (List.map Qc r29.Points))]⟩ ?_ (fun hS2684_4 => ?_)
    ·refine Qz [3, 8] (by kernel_rfl) rfl ?_
     refine ⟨?_, ?_⟩
     ·refine ⟨_, rfl, ?_⟩
      refine Qt [(1000, 3005)] (ACall.F (F := F) (c_laws_toPoint p1 r31 hr31)) Try.call52 rfl rfl rfl rfl rfl rfl rfl rfl rfl rfl rfl rfl rfl ?_
      refine Qe ?_
      refine Ql [0, 1, 2, 3, 4, 5, 17, 18, 19, 20, 21, 22, 23, 24, 25, 26, 28, 29, 30, 31] [11, 12, 2845, 2846, 2847, 2848, 3005] rfl rfl rfl rfl (by rw [hF]; rfl) ?_
      exact hS2684_2
     ·refine ⟨_, rfl, ?_⟩
      refine QJ 3405 z69 rfl rfl rfl rfl rfl rfl rfl ?_
      refine Qe ?_
      refine Ql [0, 1, 2, 3, 4, 5, 6, 17, 18, 19, 20, 21, 22, 23, 24, 25, 26, 28, 29, 30] [11, 12, 2845, 2846, 2847, 2848, 3405] rfl rfl rfl rfl (by rw [hF]; rfl) ?_
      exact hS2684_3
    refine Qy 8 [true, false, true, false, false, false, false, false, true, false, false] ⟨[(0, .agg [.sl 2 (List.map Qa p0.Pre), .sl 2 (List.map Qa p0.Post), .sl 2 (List.map Qd p0.Code), .sl 2 (List.map Qc p0.Points)]), (1, .agg [.int .i64 p1.At, .sl 2 (List.map Qa p1.Facts)]), (2, .ptr 11 0 0), (3, .ptr 12 0 0), (4, .bool false), (5, .int .i64 r24), (6, .ptr 3405 0 0), (17, .agg [.sl 2 (List.map Qa p0.Pre), .sl 2 (List.map Qa p0.Post), .sl 2 (List.map Qd p0.Code), .sl 2 (List.map Qc p0.Points)]), (18, .int .i64 (1048576 : Int)), (19, .int .i64 r19), (20, .int .i64 r19), (21, .bool (decide (r19 < (0 : Int)))), (22, .agg [.int .i64 p1.At, .sl 2 (List.map Qa p1.Facts)]), (23, .int .i64 r19), (24, .int .i64 r24), (25, .int .i64 r24), (26, .bool (decide (r24 < (0 : Int)))), (28, .agg [.sl 2 (List.map Qa p0.Pre), .sl 2 (List.map Qa p0.Post), .sl 2 (List.map Qd p0.Code), .sl 2 (List.map Qc p0.Points)]), (30, .agg [.int .i64 p1.At, .sl 2 (List.map Qa p1.Facts)])], [(11, .box [.sl 2 (List.map Qa p0.Pre), .sl 2 (List.map Qa p0.Post), .sl 2 (List.map Qd p0.Code), .sl 2 (List.map Qc p0.Points)]), (12, .box [.int .i64 p1.At, .sl 2 (List.map Qa p1.Facts)]), (3405, .box [.snil, .snil, .snil, .snil])]⟩ ?_ (fun hS2684_5 => ?_)
    ·refine Qs 1 (by kernel_rfl) rfl ?_
     refine Qt [(1000, 2845), (1001, 2846), (1002, 2847), (1003, 2848)] (ACall.F (F := F) (c_laws_toAnnotated p0 r29 hr29)) Try.call43 rfl rfl rfl rfl rfl rfl rfl rfl rfl rfl rfl rfl rfl ?_
     refine Qe ?_
     refine Qs 3 (by kernel_rfl) rfl ?_
     refine Qt [(1000, 3005)] (ACall.F (F := F) (c_laws_toPoint p1 r31 hr31)) Try.call52 rfl rfl rfl rfl rfl rfl rfl rfl rfl rfl rfl rfl rfl ?_
     refine Qe ?_
     refine Qs 4 (by kernel_rfl) rfl ?_
     refine TL_freeze 2845 (by rw [hF]; rfl) rfl rfl rfl ?_
     refine TL_freeze 2846 (by rw [hF]; rfl) rfl rfl rfl ?_
     refine TL_freeze 2847 (by rw [hF]; rfl) rfl rfl rfl ?_
     refine TL_freeze 2848 (by rw [hF]; rfl) rfl rfl rfl ?_
     refine TL_freeze 3005 (by rw [hF]; rfl) rfl rfl rfl ?_
     refine TL_callT (ACall.F (F := F) (c_spec_AddPoint r29 r31 r32 hr32)) Try.call51 rfl rfl rfl rfl rfl ?_
     refine Qe ?_
     refine Qn 5 (by kernel_rfl) rfl rfl rfl rfl rfl (Qi rfl) ?_
     refine Qn 6 (by kernel_rfl) rfl rfl rfl rfl rfl (op_extract rfl rfl) ?_
     refine Qn 7 (by kernel_rfl) rfl rfl rfl rfl rfl (op_extract rfl rfl) ?_
     refine Qs 9 (by kernel_rfl) rfl ?_
     refine Qo sz69 rfl rfl rfl rfl rfl rfl rfl rfl rfl ?_
     refine Qe ?_
     refine Qn 10 (by kernel_rfl) rfl rfl rfl rfl rfl (Qh rfl) ?_
     refine QX (by kernel_rfl) ?_
     refine Qm [2, 3, 6, 7] [11, 12, 3405] rfl rfl rfl rfl (by rw [hF]; rfl) ?_
     refine T_ren [(11, 11), (12, 12), (3405, 733)] rfl rfl rfl (by rw [hF]; rfl) ?_
     exact hj0 (r32.1.Pre, r32.1.Post, r32.1.Code, r32.1.Points, r32.2) hm
    refine Qz [1, 8] (by kernel_rfl) rfl ?_
    refine ⟨?_, ?_⟩
    ·refine ⟨_, rfl, ?_⟩
     refine Qt [(1000, 2845), (1001, 2846), (1002, 2847), (1003, 2848)] (ACall.F (F := F) (c_laws_toAnnotated p0 r29 hr29)) Try.call43 rfl rfl rfl rfl rfl rfl rfl rfl rfl rfl rfl rfl rfl ?_
     refine Qe ?_
     refine Ql [0, 1, 2, 3, 4, 5, 17, 18, 19, 20, 21, 22, 23, 24, 25, 26, 28, 29, 30] [11, 12, 2845, 2846, 2847, 2848] rfl rfl rfl rfl (by rw [hF]; rfl) ?_
     exact hS2684_4
    ·refine ⟨_, rfl, ?_⟩
     refine QJ 3405 z69 rfl rfl rfl rfl rfl rfl rfl ?_
     refine Qe ?_
     refine Ql [0, 1, 2, 3, 4, 5, 6, 17, 18, 19, 20, 21, 22, 23, 24, 25, 26, 28, 30] [11, 12, 3405] rfl rfl rfl rfl (by rw [hF]; rfl) ?_
     exact hS2684_5
end Go.Mod
