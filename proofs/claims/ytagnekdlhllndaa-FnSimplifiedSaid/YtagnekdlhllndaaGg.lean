import Derived.Test.YtagnekdlhllndaaGf
namespace Go.Mod
open Go Go.AM Go.Proofs
set_option linter.unusedVariables false
set_option linter.unusedSimpArgs false
set_option maxRecDepth 100000
set_option maxHeartbeats 8000000
theorem c_impl_kidsOf (p0 : Stmt) (out : Int) (hm : m_impl_kidsOf p0 = some out) : ACall Try.prog 125 [.agg [.int .i64 p0.Kind, .int .i64 p0.Var, .int .i64 p0.Event, .int .i64 p0.Sum.Const, .sl 1 (List.map Qf p0.Sum.Coeffs), .int .i64 p0.Index.Const, .sl 1 (List.map Qf p0.Index.Coeffs), .sl 2 (List.map Qq p0.Facts)]] [] (.int .i64 out) [] := by
 refine ACall.intro Try.func125 rfl Try.ntmps125 rfl (fun F hF => ?_)
 unfold m_impl_kidsOf at hm
 refine Qn ?_
 refine Qc ?_
 refine TL_box 11 rfl rfl rfl rfl rfl rfl rfl ?_
 refine Qa rfl rfl rfl rfl (Qb rfl) ?_
 refine Qe ?_
 refine Qn ?_
 refine T_drawZ [] mix (by kernel_rfl) rfl ?_
 obtain ⟨r17, hr17, hm⟩ := Qv hm
 obtain ⟨r20, hr20, hm⟩ := Qv hm
 refine Ql 0 (by kernel_rfl) rfl rfl rfl rfl rfl (Qi fa77_1 rfl rfl) ?_
 refine Ql 1 (by kernel_rfl) rfl rfl rfl rfl rfl (Qj ag2 rfl rfl) ?_
 refine Ql 2 (by kernel_rfl) rfl rfl rfl rfl rfl (Xq rfl rfl) ?_
 refine Ql 3 (by kernel_rfl) rfl rfl rfl rfl rfl (Qi fa77_2 rfl rfl) ?_
 refine Ql 4 (by kernel_rfl) rfl rfl rfl rfl rfl (Qj ag2 rfl rfl) ?_
 refine Ql 5 (by kernel_rfl) rfl rfl rfl rfl rfl (Xq rfl rfl) ?_
 refine Ql 6 (by kernel_rfl) rfl rfl rfl rfl rfl (Qi fa77_3 rfl rfl) ?_
 refine Ql 7 (by kernel_rfl) rfl rfl rfl rfl rfl (Qt ag75 sz75 rfl rfl rfl) ?_
 refine Ql 9 (by kernel_rfl) rfl rfl rfl rfl rfl (Qi fa77_4 rfl rfl) ?_
 refine Ql 10 (by kernel_rfl) rfl rfl rfl rfl rfl (Qt ag75 sz75 rfl rfl rfl) ?_
 refine Ql 12 (by kernel_rfl) rfl rfl rfl rfl rfl (Qi fa77_5 rfl rfl) ?_
 refine Ql 13 (by kernel_rfl) rfl rfl rfl rfl rfl (Qj ag24 rfl rfl) ?_
 refine Ql 14 (by kernel_rfl) rfl rfl rfl rfl rfl (Xm Try.underlying24 rfl (List.length_map _)) ?_
 refine TZ_fact (fun _ _ _ hr => RelP.slLen (i := 22) rfl hr) (fun hlen23 => ?_)
 rw [List.length_map] at hlen23
 refine Ql 15 (by kernel_rfl) rfl rfl rfl rfl rfl (Xq rfl rfl) ?_
 refine QF 8 (by kernel_rfl) rfl ?_
 refine QG (c_impl_Term_isZero p0.Sum r17 hr17) Try.call137 rfl rfl rfl rfl rfl ?_
 refine Qe ?_
 refine QF 11 (by kernel_rfl) rfl ?_
 refine QG (c_impl_Term_isZero p0.Index r20 hr20) Try.call137 rfl rfl rfl rfl rfl ?_
 refine Qe ?_
 refine Ql 16 (by kernel_rfl) rfl rfl rfl rfl rfl (Qb rfl) ?_
 refine Ql 17 (by kernel_rfl) rfl rfl rfl rfl rfl (Qb rfl) ?_
 refine Ql 18 (by kernel_rfl) rfl rfl rfl rfl rfl (Qb rfl) ?_
 refine Ql 19 (by kernel_rfl) rfl rfl rfl rfl rfl (Qb rfl) ?_
 refine Ql 20 (by kernel_rfl) rfl rfl rfl rfl rfl (Qb rfl) ?_
 refine Q8 (by kernel_rfl) ?_
 refine Qn ?_
 refine Qc ?_
 refine Qa rfl rfl rfl rfl (Qb rfl) ?_
 refine Qe ?_
 refine Qn ?_
 refine Qn ?_
 refine Qc ?_
 refine Qa rfl rfl rfl rfl (Qi fa77_0 rfl rfl) ?_
 refine Qa rfl rfl rfl rfl (Qj ag2 rfl rfl) ?_
 refine Qe ?_
 refine Xd ?_
 refine Qn ?_
 refine Qc ?_
 refine Qa rfl rfl rfl rfl (Xq rfl rfl) ?_
 refine Qa rfl rfl rfl rfl (Qb rfl) ?_
 refine Qe ?_
 refine QI rfl (fun hq => ?_) (fun hq => ?_)
 ·replace hm := QO hq hm
  refine Qn ?_
  refine Qc ?_
  refine Qa rfl rfl rfl rfl (Qd rfl) ?_
  refine Qa rfl rfl rfl rfl (Qd rfl) ?_
  refine Xb 2 (fun _ : Unit => ⟨[(5, .bool r17), (6, .bool r20), (7, .bool (decide ((p0.Facts.length : Int) = (0 : Int)))), (8, .int .i64 (-1 : Int)), (32, .bool ((decide (p0.Var = (0 : Int))) && (decide (p0.Event = (0 : Int)))))], []⟩) (fun _ => True) (fun _ _ => ?_) (fun hjj => ?_)
  ·refine Qa rfl rfl rfl rfl (Qd rfl) ?_
   refine Xb 2 (fun _ : Unit => ⟨[(6, .bool r20), (7, .bool (decide ((p0.Facts.length : Int) = (0 : Int)))), (8, .int .i64 (-1 : Int)), (35, .bool (((decide (p0.Var = (0 : Int))) && (decide (p0.Event = (0 : Int)))) && r17))], []⟩) (fun _ => True) (fun _ _ => ?_) (fun hjj => ?_)
   ·refine Qa rfl rfl rfl rfl (Qd rfl) ?_
    refine Xb 2 (fun _ : Unit => ⟨[(7, .bool (decide ((p0.Facts.length : Int) = (0 : Int)))), (8, .int .i64 (-1 : Int)), (38, .bool ((((decide (p0.Var = (0 : Int))) && (decide (p0.Event = (0 : Int)))) && r17) && r20))], []⟩) (fun _ => True) (fun _ _ => ?_) (fun hjj => ?_)
    ·refine Qa rfl rfl rfl rfl (Qd rfl) ?_
     refine Xb 2 (fun _ : Unit => ⟨[(8, .int .i64 (-1 : Int)), (41, .bool (((((decide (p0.Var = (0 : Int))) && (decide (p0.Event = (0 : Int)))) && r17) && r20) && (decide ((p0.Facts.length : Int) = (0 : Int)))))], []⟩) (fun _ => True) (fun _ _ => ?_) (fun hjj => ?_)
     ·refine Qe ?_
      refine QI rfl (fun hq => ?_) (fun hq => ?_)
      ·replace hm := QO hq hm
       refine Qc ?_
       refine Qa rfl rfl rfl rfl (Qb rfl) ?_
       refine Qe ?_
       refine Qn ?_
       refine Qc ?_
       refine Qa rfl rfl rfl rfl (Qd rfl) ?_
       refine Qa rfl rfl rfl rfl (Qb rfl) ?_
       refine Qe ?_
       refine Qo [2] [] rfl rfl rfl rfl (by rw [hF]; rfl) ?_
       refine QB ?_
       obtain rfl := Qw hm
       refine ⟨[_], [], ⟨rfl, trivial⟩, ?_, rfl, rfl, rfl, rfl⟩
       rfl
      ·replace hm := QM hq hm
       refine QL ?_
       refine Qn ?_
       refine Qc ?_
       refine Qa rfl rfl rfl rfl (Qd rfl) ?_
       refine Qa rfl rfl rfl rfl (Qb rfl) ?_
       refine Qe ?_
       refine Qo [2] [] rfl rfl rfl rfl (by rw [hF]; rfl) ?_
       refine QB ?_
       obtain rfl := Qw hm
       refine ⟨[_], [], ⟨rfl, trivial⟩, ?_, rfl, rfl, rfl, rfl⟩
       rfl
     ·refine Qy 39 rfl rfl rfl (fun hq => ?_) (fun hq => ?_)
      ·refine Qm rfl rfl ?_
       refine Qa rfl rfl rfl rfl (Qd rfl) ?_
       refine Qa rfl rfl rfl rfl (Qp rfl rfl) ?_
       refine Qx [8, 41] [] rfl rfl rfl rfl (by rw [hF]; rfl) ?_
       exact QA _ (by first | (rw [hq, Bool.true_and]; done) | (rw [hq]; rfl)) (hjj () trivial)
      ·refine Qh rfl rfl rfl rfl rfl rfl rfl ?_
       refine Qa rfl rfl rfl rfl (Qk rfl rfl) ?_
       refine Qx [8, 41] [] rfl rfl rfl rfl (by rw [hF]; rfl) ?_
       exact QA _ (by first | (rw [hq, Bool.false_and]; done) | (rw [hq]; rfl)) (hjj () trivial)
    ·refine Qy 36 rfl rfl rfl (fun hq => ?_) (fun hq => ?_)
     ·refine Qm rfl rfl ?_
      refine Qa rfl rfl rfl rfl (Qd rfl) ?_
      refine Qa rfl rfl rfl rfl (Qp rfl rfl) ?_
      refine Qx [7, 8, 38] [] rfl rfl rfl rfl (by rw [hF]; rfl) ?_
      exact QA _ (by first | (rw [hq, Bool.true_and]; done) | (rw [hq]; rfl)) (hjj () trivial)
     ·refine Qh rfl rfl rfl rfl rfl rfl rfl ?_
      refine Qa rfl rfl rfl rfl (Qk rfl rfl) ?_
      refine Qx [7, 8, 38] [] rfl rfl rfl rfl (by rw [hF]; rfl) ?_
      exact QA _ (by first | (rw [hq, Bool.false_and]; done) | (rw [hq]; rfl)) (hjj () trivial)
   ·refine Qy 33 rfl rfl rfl (fun hq => ?_) (fun hq => ?_)
    ·refine Qm rfl rfl ?_
     refine Qa rfl rfl rfl rfl (Qd rfl) ?_
     refine Qa rfl rfl rfl rfl (Qp rfl rfl) ?_
     refine Qx [6, 7, 8, 35] [] rfl rfl rfl rfl (by rw [hF]; rfl) ?_
     exact QA _ (by first | (rw [hq, Bool.true_and]; done) | (rw [hq]; rfl)) (hjj () trivial)
    ·refine Qh rfl rfl rfl rfl rfl rfl rfl ?_
     refine Qa rfl rfl rfl rfl (Qk rfl rfl) ?_
     refine Qx [6, 7, 8, 35] [] rfl rfl rfl rfl (by rw [hF]; rfl) ?_
     exact QA _ (by first | (rw [hq, Bool.false_and]; done) | (rw [hq]; rfl)) (hjj () trivial)
  ·refine Qy 30 rfl rfl rfl (fun hq => ?_) (fun hq => ?_)
   ·refine Qm rfl rfl ?_
    refine Qa rfl rfl rfl rfl (Qd rfl) ?_
    refine Qa rfl rfl rfl rfl (Qp rfl rfl) ?_
    refine Qx [5, 6, 7, 8, 32] [] rfl rfl rfl rfl (by rw [hF]; rfl) ?_
    exact QA _ (by first | (rw [hq, Bool.true_and]; done) | (rw [hq]; rfl)) (hjj () trivial)
   ·refine Qh rfl rfl rfl rfl rfl rfl rfl ?_
    refine Qa rfl rfl rfl rfl (Qk rfl rfl) ?_
    refine Qx [5, 6, 7, 8, 32] [] rfl rfl rfl rfl (by rw [hF]; rfl) ?_
    exact QA _ (by first | (rw [hq, Bool.false_and]; done) | (rw [hq]; rfl)) (hjj () trivial)
 ·replace hm := QM hq hm
  refine Qn ?_
  refine Qc ?_
  refine Qa rfl rfl rfl rfl (Xq rfl rfl) ?_
  refine Qa rfl rfl rfl rfl (Qb rfl) ?_
  refine Qe ?_
  refine QI rfl (fun hq => ?_) (fun hq => ?_)
  ·replace hm := QO hq hm
   refine Qn ?_
   refine Qc ?_
   refine Qa rfl rfl rfl rfl (Qd rfl) ?_
   refine Qa rfl rfl rfl rfl (Qd rfl) ?_
   refine Xb 2 (fun _ : Unit => ⟨[(5, .bool r17), (6, .bool r20), (7, .bool (decide ((p0.Facts.length : Int) = (0 : Int)))), (8, .int .i64 (-1 : Int)), (47, .bool ((decide (p0.Var = (0 : Int))) && (decide (p0.Event = (0 : Int)))))], []⟩) (fun _ => True) (fun _ _ => ?_) (fun hjj => ?_)
   ·refine Qa rfl rfl rfl rfl (Qd rfl) ?_
    refine Xb 2 (fun _ : Unit => ⟨[(6, .bool r20), (7, .bool (decide ((p0.Facts.length : Int) = (0 : Int)))), (8, .int .i64 (-1 : Int)), (50, .bool (((decide (p0.Var = (0 : Int))) && (decide (p0.Event = (0 : Int)))) && r17))], []⟩) (fun _ => True) (fun _ _ => ?_) (fun hjj => ?_)
    ·refine Qa rfl rfl rfl rfl (Qd rfl) ?_
     refine Xb 2 (fun _ : Unit => ⟨[(7, .bool (decide ((p0.Facts.length : Int) = (0 : Int)))), (8, .int .i64 (-1 : Int)), (53, .bool ((((decide (p0.Var = (0 : Int))) && (decide (p0.Event = (0 : Int)))) && r17) && r20))], []⟩) (fun _ => True) (fun _ _ => ?_) (fun hjj => ?_)
     ·refine Qa rfl rfl rfl rfl (Qd rfl) ?_
      refine Xb 2 (fun _ : Unit => ⟨[(8, .int .i64 (-1 : Int)), (56, .bool (((((decide (p0.Var = (0 : Int))) && (decide (p0.Event = (0 : Int)))) && r17) && r20) && (decide ((p0.Facts.length : Int) = (0 : Int)))))], []⟩) (fun _ => True) (fun _ _ => ?_) (fun hjj => ?_)
      ·refine Qe ?_
       refine QI rfl (fun hq => ?_) (fun hq => ?_)
       ·replace hm := QO hq hm
        refine Qc ?_
        refine Qa rfl rfl rfl rfl (Qb rfl) ?_
        refine Qe ?_
        refine Qn ?_
        refine Qc ?_
        refine Qa rfl rfl rfl rfl (Qd rfl) ?_
        refine Qa rfl rfl rfl rfl (Qb rfl) ?_
        refine Qe ?_
        refine Qo [2] [] rfl rfl rfl rfl (by rw [hF]; rfl) ?_
        refine QB ?_
        obtain rfl := Qw hm
        refine ⟨[_], [], ⟨rfl, trivial⟩, ?_, rfl, rfl, rfl, rfl⟩
        rfl
       ·replace hm := QM hq hm
        refine QL ?_
        refine Qn ?_
        refine Qc ?_
        refine Qa rfl rfl rfl rfl (Qd rfl) ?_
        refine Qa rfl rfl rfl rfl (Qb rfl) ?_
        refine Qe ?_
        refine Qo [2] [] rfl rfl rfl rfl (by rw [hF]; rfl) ?_
        refine QB ?_
        obtain rfl := Qw hm
        refine ⟨[_], [], ⟨rfl, trivial⟩, ?_, rfl, rfl, rfl, rfl⟩
        rfl
      ·refine Qy 54 rfl rfl rfl (fun hq => ?_) (fun hq => ?_)
       ·refine Qm rfl rfl ?_
        refine Qa rfl rfl rfl rfl (Qd rfl) ?_
        refine Qa rfl rfl rfl rfl (Qp rfl rfl) ?_
        refine Qx [8, 56] [] rfl rfl rfl rfl (by rw [hF]; rfl) ?_
        exact QA _ (by first | (rw [hq, Bool.true_and]; done) | (rw [hq]; rfl)) (hjj () trivial)
       ·refine Qh rfl rfl rfl rfl rfl rfl rfl ?_
        refine Qa rfl rfl rfl rfl (Qk rfl rfl) ?_
        refine Qx [8, 56] [] rfl rfl rfl rfl (by rw [hF]; rfl) ?_
        exact QA _ (by first | (rw [hq, Bool.false_and]; done) | (rw [hq]; rfl)) (hjj () trivial)
     ·refine Qy 51 rfl rfl rfl (fun hq => ?_) (fun hq => ?_)
      ·refine Qm rfl rfl ?_
       refine Qa rfl rfl rfl rfl (Qd rfl) ?_
       refine Qa rfl rfl rfl rfl (Qp rfl rfl) ?_
       refine Qx [7, 8, 53] [] rfl rfl rfl rfl (by rw [hF]; rfl) ?_
       exact QA _ (by first | (rw [hq, Bool.true_and]; done) | (rw [hq]; rfl)) (hjj () trivial)
      ·refine Qh rfl rfl rfl rfl rfl rfl rfl ?_
       refine Qa rfl rfl rfl rfl (Qk rfl rfl) ?_
       refine Qx [7, 8, 53] [] rfl rfl rfl rfl (by rw [hF]; rfl) ?_
       exact QA _ (by first | (rw [hq, Bool.false_and]; done) | (rw [hq]; rfl)) (hjj () trivial)
    ·refine Qy 48 rfl rfl rfl (fun hq => ?_) (fun hq => ?_)
     ·refine Qm rfl rfl ?_
      refine Qa rfl rfl rfl rfl (Qd rfl) ?_
      refine Qa rfl rfl rfl rfl (Qp rfl rfl) ?_
      refine Qx [6, 7, 8, 50] [] rfl rfl rfl rfl (by rw [hF]; rfl) ?_
      exact QA _ (by first | (rw [hq, Bool.true_and]; done) | (rw [hq]; rfl)) (hjj () trivial)
     ·refine Qh rfl rfl rfl rfl rfl rfl rfl ?_
      refine Qa rfl rfl rfl rfl (Qk rfl rfl) ?_
      refine Qx [6, 7, 8, 50] [] rfl rfl rfl rfl (by rw [hF]; rfl) ?_
      exact QA _ (by first | (rw [hq, Bool.false_and]; done) | (rw [hq]; rfl)) (hjj () trivial)
   ·refine Qy 45 rfl rfl rfl (fun hq => ?_) (fun hq => ?_)
    ·refine Qm rfl rfl ?_
     refine Qa rfl rfl rfl rfl (Qd rfl) ?_
     refine Qa rfl rfl rfl rfl (Qp rfl rfl) ?_
     refine Qx [5, 6, 7, 8, 47] [] rfl rfl rfl rfl (by rw [hF]; rfl) ?_
     exact QA _ (by first | (rw [hq, Bool.true_and]; done) | (rw [hq]; rfl)) (hjj () trivial)
    ·refine Qh rfl rfl rfl rfl rfl rfl rfl ?_
     refine Qa rfl rfl rfl rfl (Qk rfl rfl) ?_
     refine Qx [5, 6, 7, 8, 47] [] rfl rfl rfl rfl (by rw [hF]; rfl) ?_
     exact QA _ (by first | (rw [hq, Bool.false_and]; done) | (rw [hq]; rfl)) (hjj () trivial)
  ·replace hm := QM hq hm
   refine Qn ?_
   refine Qc ?_
   refine Qa rfl rfl rfl rfl (Xq rfl rfl) ?_
   refine Qa rfl rfl rfl rfl (Qb rfl) ?_
   refine Qe ?_
   refine QI rfl (fun hq => ?_) (fun hq => ?_)
   ·replace hm := QO hq hm
    refine Qn ?_
    refine Qc ?_
    refine Qa rfl rfl rfl rfl (Qi fa77_1 rfl rfl) ?_
    refine Qa rfl rfl rfl rfl (Qj ag2 rfl rfl) ?_
    obtain ⟨r61, hr61, hm⟩ := Qv hm
    refine QG (c_impl_isVar p0.Var r61 hr61) Try.call138 rfl rfl rfl rfl rfl ?_
    refine Qa rfl rfl rfl rfl (Qd rfl) ?_
    refine Xb 2 (fun _ : Unit => ⟨[(1, .ptr 11 0 0), (6, .bool r20), (7, .bool (decide ((p0.Facts.length : Int) = (0 : Int)))), (8, .int .i64 (-1 : Int)), (64, .bool (r61 && (decide (p0.Event = (0 : Int)))))], [(11, .box [.int .i64 p0.Kind, .int .i64 p0.Var, .int .i64 p0.Event, .int .i64 p0.Sum.Const, .sl 1 (List.map Qf p0.Sum.Coeffs), .int .i64 p0.Index.Const, .sl 1 (List.map Qf p0.Index.Coeffs), .sl 2 (List.map Qq p0.Facts)])]⟩) (fun _ => True) (fun _ _ => ?_) (fun hjj => ?_)
    ·refine Qa rfl rfl rfl rfl (Qd rfl) ?_
     refine Qy 65 rfl rfl rfl (fun hq => ?_) (fun hq => ?_)
     ·replace hm := QO hq hm
      refine Qm rfl rfl ?_
      refine Qa rfl rfl rfl rfl (Qi fa77_3 rfl rfl) ?_
      refine Qm rfl rfl ?_
      refine Qa rfl rfl rfl rfl (Qt ag75 sz75 rfl rfl rfl) ?_
      refine Qm rfl rfl ?_
      obtain ⟨r68, hr68, hm⟩ := Qv hm
      refine QG (c_impl_isOver p0.Sum r68 hr68) Try.call90 rfl rfl rfl rfl rfl ?_
      refine Qa rfl rfl rfl rfl (Qp rfl rfl) ?_
      refine Qa rfl rfl rfl rfl (Qd rfl) ?_
      refine Xb 2 (fun _ : Unit => ⟨[(7, .bool (decide ((p0.Facts.length : Int) = (0 : Int)))), (8, .int .i64 (-1 : Int)), (72, .bool (r68 && r20))], []⟩) (fun _ => True) (fun _ _ => ?_) (fun hjj => ?_)
      ·refine Qa rfl rfl rfl rfl (Qd rfl) ?_
       refine Xb 2 (fun _ : Unit => ⟨[(8, .int .i64 (-1 : Int)), (75, .bool ((r68 && r20) && (decide ((p0.Facts.length : Int) = (0 : Int)))))], []⟩) (fun _ => True) (fun _ _ => ?_) (fun hjj => ?_)
       ·refine Qe ?_
        refine QI rfl (fun hq => ?_) (fun hq => ?_)
        ·replace hm := QO hq hm
         refine Qc ?_
         refine Qa rfl rfl rfl rfl (Qb rfl) ?_
         refine Qe ?_
         refine Qn ?_
         refine Qc ?_
         refine Qa rfl rfl rfl rfl (Qd rfl) ?_
         refine Qa rfl rfl rfl rfl (Qb rfl) ?_
         refine Qe ?_
         refine Qo [2] [] rfl rfl rfl rfl (by rw [hF]; rfl) ?_
         refine QB ?_
         obtain rfl := Qw hm
         refine ⟨[_], [], ⟨rfl, trivial⟩, ?_, rfl, rfl, rfl, rfl⟩
         rfl
        ·replace hm := QM hq hm
         refine QL ?_
         refine Qn ?_
         refine Qc ?_
         refine Qa rfl rfl rfl rfl (Qd rfl) ?_
         refine Qa rfl rfl rfl rfl (Qb rfl) ?_
         refine Qe ?_
         refine Qo [2] [] rfl rfl rfl rfl (by rw [hF]; rfl) ?_
         refine QB ?_
         obtain rfl := Qw hm
         refine ⟨[_], [], ⟨rfl, trivial⟩, ?_, rfl, rfl, rfl, rfl⟩
         rfl
       ·refine Qy 73 rfl rfl rfl (fun hq => ?_) (fun hq => ?_)
        ·refine Qm rfl rfl ?_
         refine Qa rfl rfl rfl rfl (Qd rfl) ?_
         refine Qa rfl rfl rfl rfl (Qp rfl rfl) ?_
         refine Qx [8, 75] [] rfl rfl rfl rfl (by rw [hF]; rfl) ?_
         exact QA _ (by first | (rw [hq, Bool.true_and]; done) | (rw [hq]; rfl)) (hjj () trivial)
        ·refine Qh rfl rfl rfl rfl rfl rfl rfl ?_
         refine Qa rfl rfl rfl rfl (Qk rfl rfl) ?_
         refine Qx [8, 75] [] rfl rfl rfl rfl (by rw [hF]; rfl) ?_
         exact QA _ (by first | (rw [hq, Bool.false_and]; done) | (rw [hq]; rfl)) (hjj () trivial)
      ·refine Qy 70 rfl rfl rfl (fun hq => ?_) (fun hq => ?_)
       ·refine Qm rfl rfl ?_
        refine Qa rfl rfl rfl rfl (Qd rfl) ?_
        refine Qa rfl rfl rfl rfl (Qp rfl rfl) ?_
        refine Qx [7, 8, 72] [] rfl rfl rfl rfl (by rw [hF]; rfl) ?_
        exact QA _ (by first | (rw [hq, Bool.true_and]; done) | (rw [hq]; rfl)) (hjj () trivial)
       ·refine Qh rfl rfl rfl rfl rfl rfl rfl ?_
        refine Qa rfl rfl rfl rfl (Qk rfl rfl) ?_
        refine Qx [7, 8, 72] [] rfl rfl rfl rfl (by rw [hF]; rfl) ?_
        exact QA _ (by first | (rw [hq, Bool.false_and]; done) | (rw [hq]; rfl)) (hjj () trivial)
     ·replace hm := QM hq hm
      refine Qh rfl rfl rfl rfl rfl rfl rfl ?_
      refine Qh rfl rfl rfl rfl rfl rfl rfl ?_
      refine Qh rfl rfl rfl rfl rfl rfl rfl ?_
      refine Qa rfl rfl rfl rfl (Qk rfl rfl) ?_
      refine Qa rfl rfl rfl rfl (Qd rfl) ?_
      refine Qh rfl rfl rfl rfl rfl rfl rfl ?_
      refine Qa rfl rfl rfl rfl (Qk rfl rfl) ?_
      refine Qa rfl rfl rfl rfl (Qd rfl) ?_
      refine Qh rfl rfl rfl rfl rfl rfl rfl ?_
      refine Qa rfl rfl rfl rfl (Qk rfl rfl) ?_
      refine Qe ?_
      refine Xz rfl ?_
      refine QL ?_
      refine Qn ?_
      refine Qc ?_
      refine Qa rfl rfl rfl rfl (Qd rfl) ?_
      refine Qa rfl rfl rfl rfl (Qb rfl) ?_
      refine Qe ?_
      refine Qo [2] [] rfl rfl rfl rfl (by rw [hF]; rfl) ?_
      refine QB ?_
      obtain rfl := Qw hm
      refine ⟨[_], [], ⟨rfl, trivial⟩, ?_, rfl, rfl, rfl, rfl⟩
      rfl
    ·refine Qy 62 rfl rfl rfl (fun hq => ?_) (fun hq => ?_)
     ·refine Qm rfl rfl ?_
      refine Qa rfl rfl rfl rfl (Qd rfl) ?_
      refine Qa rfl rfl rfl rfl (Qp rfl rfl) ?_
      refine Qx [1, 6, 7, 8, 64] [11] rfl rfl rfl rfl (by rw [hF]; rfl) ?_
      exact QA _ (by first | (rw [hq, Bool.true_and]; done) | (rw [hq]; rfl)) (hjj () trivial)
     ·refine Qh rfl rfl rfl rfl rfl rfl rfl ?_
      refine Qa rfl rfl rfl rfl (Qk rfl rfl) ?_
      refine Qx [1, 6, 7, 8, 64] [11] rfl rfl rfl rfl (by rw [hF]; rfl) ?_
      exact QA _ (by first | (rw [hq, Bool.false_and]; done) | (rw [hq]; rfl)) (hjj () trivial)
   ·replace hm := QM hq hm
    refine Qn ?_
    refine Qc ?_
    refine Qa rfl rfl rfl rfl (Xq rfl rfl) ?_
    refine Qa rfl rfl rfl rfl (Qb rfl) ?_
    refine Qe ?_
    refine QI rfl (fun hq => ?_) (fun hq => ?_)
    ·replace hm := QO hq hm
     refine Qn ?_
     refine Qc ?_
     refine Qa rfl rfl rfl rfl (Qi fa77_1 rfl rfl) ?_
     refine Qa rfl rfl rfl rfl (Qj ag2 rfl rfl) ?_
     obtain ⟨r80, hr80, hm⟩ := Qv hm
     refine QG (c_impl_isVar p0.Var r80 hr80) Try.call138 rfl rfl rfl rfl rfl ?_
     refine Qa rfl rfl rfl rfl (Qd rfl) ?_
     refine Xb 2 (fun _ : Unit => ⟨[(1, .ptr 11 0 0), (5, .bool r17), (7, .bool (decide ((p0.Facts.length : Int) = (0 : Int)))), (8, .int .i64 (-1 : Int)), (83, .bool (r80 && (decide (p0.Event = (0 : Int)))))], [(11, .box [.int .i64 p0.Kind, .int .i64 p0.Var, .int .i64 p0.Event, .int .i64 p0.Sum.Const, .sl 1 (List.map Qf p0.Sum.Coeffs), .int .i64 p0.Index.Const, .sl 1 (List.map Qf p0.Index.Coeffs), .sl 2 (List.map Qq p0.Facts)])]⟩) (fun _ => True) (fun _ _ => ?_) (fun hjj => ?_)
     ·refine Qa rfl rfl rfl rfl (Qd rfl) ?_
      refine Xb 2 (fun _ : Unit => ⟨[(1, .ptr 11 0 0), (7, .bool (decide ((p0.Facts.length : Int) = (0 : Int)))), (8, .int .i64 (-1 : Int)), (86, .bool ((r80 && (decide (p0.Event = (0 : Int)))) && r17))], [(11, .box [.int .i64 p0.Kind, .int .i64 p0.Var, .int .i64 p0.Event, .int .i64 p0.Sum.Const, .sl 1 (List.map Qf p0.Sum.Coeffs), .int .i64 p0.Index.Const, .sl 1 (List.map Qf p0.Index.Coeffs), .sl 2 (List.map Qq p0.Facts)])]⟩) (fun _ => True) (fun _ _ => ?_) (fun hjj => ?_)
      ·refine Qa rfl rfl rfl rfl (Qd rfl) ?_
       refine Qy 87 rfl rfl rfl (fun hq => ?_) (fun hq => ?_)
       ·replace hm := QO hq hm
        refine Qm rfl rfl ?_
        refine Qa rfl rfl rfl rfl (Qi fa77_4 rfl rfl) ?_
        refine Qm rfl rfl ?_
        refine Qa rfl rfl rfl rfl (Qt ag75 sz75 rfl rfl rfl) ?_
        refine Qm rfl rfl ?_
        obtain ⟨r90, hr90, hm⟩ := Qv hm
        refine QG (c_impl_isOver p0.Index r90 hr90) Try.call90 rfl rfl rfl rfl rfl ?_
        refine Qa rfl rfl rfl rfl (Qp rfl rfl) ?_
        refine Qa rfl rfl rfl rfl (Qd rfl) ?_
        refine Xb 2 (fun _ : Unit => ⟨[(8, .int .i64 (-1 : Int)), (94, .bool (r90 && (decide ((p0.Facts.length : Int) = (0 : Int)))))], []⟩) (fun _ => True) (fun _ _ => ?_) (fun hjj => ?_)
        ·refine Qe ?_
         refine QI rfl (fun hq => ?_) (fun hq => ?_)
         ·replace hm := QO hq hm
          refine Qc ?_
          refine Qa rfl rfl rfl rfl (Qb rfl) ?_
          refine Qe ?_
          refine Qn ?_
          refine Qc ?_
          refine Qa rfl rfl rfl rfl (Qd rfl) ?_
          refine Qa rfl rfl rfl rfl (Qb rfl) ?_
          refine Qe ?_
          refine Qo [2] [] rfl rfl rfl rfl (by rw [hF]; rfl) ?_
          refine QB ?_
          obtain rfl := Qw hm
          refine ⟨[_], [], ⟨rfl, trivial⟩, ?_, rfl, rfl, rfl, rfl⟩
          rfl
         ·replace hm := QM hq hm
          refine QL ?_
          refine Qn ?_
          refine Qc ?_
          refine Qa rfl rfl rfl rfl (Qd rfl) ?_
          refine Qa rfl rfl rfl rfl (Qb rfl) ?_
          refine Qe ?_
          refine Qo [2] [] rfl rfl rfl rfl (by rw [hF]; rfl) ?_
          refine QB ?_
          obtain rfl := Qw hm
          refine ⟨[_], [], ⟨rfl, trivial⟩, ?_, rfl, rfl, rfl, rfl⟩
          rfl
        ·refine Qy 92 rfl rfl rfl (fun hq => ?_) (fun hq => ?_)
         ·refine Qm rfl rfl ?_
          refine Qa rfl rfl rfl rfl (Qd rfl) ?_
          refine Qa rfl rfl rfl rfl (Qp rfl rfl) ?_
          refine Qx [8, 94] [] rfl rfl rfl rfl (by rw [hF]; rfl) ?_
          exact QA _ (by first | (rw [hq, Bool.true_and]; done) | (rw [hq]; rfl)) (hjj () trivial)
         ·refine Qh rfl rfl rfl rfl rfl rfl rfl ?_
          refine Qa rfl rfl rfl rfl (Qk rfl rfl) ?_
          refine Qx [8, 94] [] rfl rfl rfl rfl (by rw [hF]; rfl) ?_
          exact QA _ (by first | (rw [hq, Bool.false_and]; done) | (rw [hq]; rfl)) (hjj () trivial)
       ·replace hm := QM hq hm
        refine Qh rfl rfl rfl rfl rfl rfl rfl ?_
        refine Qh rfl rfl rfl rfl rfl rfl rfl ?_
        refine Qh rfl rfl rfl rfl rfl rfl rfl ?_
        refine Qa rfl rfl rfl rfl (Qk rfl rfl) ?_
        refine Qa rfl rfl rfl rfl (Qd rfl) ?_
        refine Qh rfl rfl rfl rfl rfl rfl rfl ?_
        refine Qa rfl rfl rfl rfl (Qk rfl rfl) ?_
        refine Qe ?_
        refine Xz rfl ?_
        refine QL ?_
        refine Qn ?_
        refine Qc ?_
        refine Qa rfl rfl rfl rfl (Qd rfl) ?_
        refine Qa rfl rfl rfl rfl (Qb rfl) ?_
        refine Qe ?_
        refine Qo [2] [] rfl rfl rfl rfl (by rw [hF]; rfl) ?_
        refine QB ?_
        obtain rfl := Qw hm
        refine ⟨[_], [], ⟨rfl, trivial⟩, ?_, rfl, rfl, rfl, rfl⟩
        rfl
      ·refine Qy 84 rfl rfl rfl (fun hq => ?_) (fun hq => ?_)
       ·refine Qm rfl rfl ?_
        refine Qa rfl rfl rfl rfl (Qd rfl) ?_
        refine Qa rfl rfl rfl rfl (Qp rfl rfl) ?_
        refine Qx [1, 7, 8, 86] [11] rfl rfl rfl rfl (by rw [hF]; rfl) ?_
        exact QA _ (by first | (rw [hq, Bool.true_and]; done) | (rw [hq]; rfl)) (hjj () trivial)
       ·refine Qh rfl rfl rfl rfl rfl rfl rfl ?_
        refine Qa rfl rfl rfl rfl (Qk rfl rfl) ?_
        refine Qx [1, 7, 8, 86] [11] rfl rfl rfl rfl (by rw [hF]; rfl) ?_
        exact QA _ (by first | (rw [hq, Bool.false_and]; done) | (rw [hq]; rfl)) (hjj () trivial)
     ·refine Qy 81 rfl rfl rfl (fun hq => ?_) (fun hq => ?_)
      ·refine Qm rfl rfl ?_
       refine Qa rfl rfl rfl rfl (Qd rfl) ?_
       refine Qa rfl rfl rfl rfl (Qp rfl rfl) ?_
       refine Qx [1, 5, 7, 8, 83] [11] rfl rfl rfl rfl (by rw [hF]; rfl) ?_
       exact QA _ (by first | (rw [hq, Bool.true_and]; done) | (rw [hq]; rfl)) (hjj () trivial)
      ·refine Qh rfl rfl rfl rfl rfl rfl rfl ?_
       refine Qa rfl rfl rfl rfl (Qk rfl rfl) ?_
       refine Qx [1, 5, 7, 8, 83] [11] rfl rfl rfl rfl (by rw [hF]; rfl) ?_
       exact QA _ (by first | (rw [hq, Bool.false_and]; done) | (rw [hq]; rfl)) (hjj () trivial)
    ·replace hm := QM hq hm
     refine Qn ?_
     refine Qc ?_
     refine Qa rfl rfl rfl rfl (Xq rfl rfl) ?_
     refine Qa rfl rfl rfl rfl (Qb rfl) ?_
     refine Qe ?_
     refine QI rfl (fun hq => ?_) (fun hq => ?_)
     ·replace hm := QO hq hm
      refine Qn ?_
      refine Qc ?_
      refine Qa rfl rfl rfl rfl (Qd rfl) ?_
      refine Qa rfl rfl rfl rfl (Qd rfl) ?_
      refine Xb 2 (fun _ : Unit => ⟨[(1, .ptr 11 0 0), (7, .bool (decide ((p0.Facts.length : Int) = (0 : Int)))), (8, .int .i64 (-1 : Int)), (100, .bool ((decide (p0.Var = (0 : Int))) && (decide (p0.Event = (0 : Int)))))], [(11, .box [.int .i64 p0.Kind, .int .i64 p0.Var, .int .i64 p0.Event, .int .i64 p0.Sum.Const, .sl 1 (List.map Qf p0.Sum.Coeffs), .int .i64 p0.Index.Const, .sl 1 (List.map Qf p0.Index.Coeffs), .sl 2 (List.map Qq p0.Facts)])]⟩) (fun _ => True) (fun _ _ => ?_) (fun hjj => ?_)
      ·refine Qa rfl rfl rfl rfl (Qd rfl) ?_
       refine Qy 101 rfl rfl rfl (fun hq => ?_) (fun hq => ?_)
       ·replace hm := QO hq hm
        refine Qm rfl rfl ?_
        refine Qa rfl rfl rfl rfl (Qi fa77_3 rfl rfl) ?_
        refine Qm rfl rfl ?_
        refine Qa rfl rfl rfl rfl (Qt ag75 sz75 rfl rfl rfl) ?_
        refine Qm rfl rfl ?_
        obtain ⟨r104, hr104, hm⟩ := Qv hm
        refine QG (c_impl_isOver p0.Sum r104 hr104) Try.call90 rfl rfl rfl rfl rfl ?_
        refine Qa rfl rfl rfl rfl (Qp rfl rfl) ?_
        refine Qa rfl rfl rfl rfl (Qd rfl) ?_
        refine Qy 106 rfl rfl rfl (fun hq => ?_) (fun hq => ?_)
        ·replace hm := QO hq hm
         refine Qm rfl rfl ?_
         refine Qa rfl rfl rfl rfl (Qi fa77_4 rfl rfl) ?_
         refine Qm rfl rfl ?_
         refine Qa rfl rfl rfl rfl (Qt ag75 sz75 rfl rfl rfl) ?_
         refine Qm rfl rfl ?_
         obtain ⟨r109, hr109, hm⟩ := Qv hm
         refine QG (c_impl_isOver p0.Index r109 hr109) Try.call90 rfl rfl rfl rfl rfl ?_
         refine Qa rfl rfl rfl rfl (Qp rfl rfl) ?_
         refine Qa rfl rfl rfl rfl (Qd rfl) ?_
         refine Xb 2 (fun _ : Unit => ⟨[(8, .int .i64 (-1 : Int)), (113, .bool (r109 && (decide ((p0.Facts.length : Int) = (0 : Int)))))], []⟩) (fun _ => True) (fun _ _ => ?_) (fun hjj => ?_)
         ·refine Qe ?_
          refine QI rfl (fun hq => ?_) (fun hq => ?_)
          ·replace hm := QO hq hm
           refine Qc ?_
           refine Qa rfl rfl rfl rfl (Qb rfl) ?_
           refine Qe ?_
           refine Qn ?_
           refine Qc ?_
           refine Qa rfl rfl rfl rfl (Qd rfl) ?_
           refine Qa rfl rfl rfl rfl (Qb rfl) ?_
           refine Qe ?_
           refine Qo [2] [] rfl rfl rfl rfl (by rw [hF]; rfl) ?_
           refine QB ?_
           obtain rfl := Qw hm
           refine ⟨[_], [], ⟨rfl, trivial⟩, ?_, rfl, rfl, rfl, rfl⟩
           rfl
          ·replace hm := QM hq hm
           refine QL ?_
           refine Qn ?_
           refine Qc ?_
           refine Qa rfl rfl rfl rfl (Qd rfl) ?_
           refine Qa rfl rfl rfl rfl (Qb rfl) ?_
           refine Qe ?_
           refine Qo [2] [] rfl rfl rfl rfl (by rw [hF]; rfl) ?_
           refine QB ?_
           obtain rfl := Qw hm
           refine ⟨[_], [], ⟨rfl, trivial⟩, ?_, rfl, rfl, rfl, rfl⟩
           rfl
         ·refine Qy 111 rfl rfl rfl (fun hq => ?_) (fun hq => ?_)
          ·refine Qm rfl rfl ?_
           refine Qa rfl rfl rfl rfl (Qd rfl) ?_
           refine Qa rfl rfl rfl rfl (Qp rfl rfl) ?_
           refine Qx [8, 113] [] rfl rfl rfl rfl (by rw [hF]; rfl) ?_
           exact QA _ (by first | (rw [hq, Bool.true_and]; done) | (rw [hq]; rfl)) (hjj () trivial)
          ·refine Qh rfl rfl rfl rfl rfl rfl rfl ?_
           refine Qa rfl rfl rfl rfl (Qk rfl rfl) ?_
           refine Qx [8, 113] [] rfl rfl rfl rfl (by rw [hF]; rfl) ?_
           exact QA _ (by first | (rw [hq, Bool.false_and]; done) | (rw [hq]; rfl)) (hjj () trivial)
        ·replace hm := QM hq hm
         refine Qh rfl rfl rfl rfl rfl rfl rfl ?_
         refine Qh rfl rfl rfl rfl rfl rfl rfl ?_
         refine Qh rfl rfl rfl rfl rfl rfl rfl ?_
         refine Qa rfl rfl rfl rfl (Qk rfl rfl) ?_
         refine Qa rfl rfl rfl rfl (Qd rfl) ?_
         refine Qh rfl rfl rfl rfl rfl rfl rfl ?_
         refine Qa rfl rfl rfl rfl (Qk rfl rfl) ?_
         refine Qe ?_
         refine Xz rfl ?_
         refine QL ?_
         refine Qn ?_
         refine Qc ?_
         refine Qa rfl rfl rfl rfl (Qd rfl) ?_
         refine Qa rfl rfl rfl rfl (Qb rfl) ?_
         refine Qe ?_
         refine Qo [2] [] rfl rfl rfl rfl (by rw [hF]; rfl) ?_
         refine QB ?_
         obtain rfl := Qw hm
         refine ⟨[_], [], ⟨rfl, trivial⟩, ?_, rfl, rfl, rfl, rfl⟩
         rfl
       ·replace hm := QM hq hm
        refine Qh rfl rfl rfl rfl rfl rfl rfl ?_
        refine Qh rfl rfl rfl rfl rfl rfl rfl ?_
        refine Qh rfl rfl rfl rfl rfl rfl rfl ?_
        refine Qa rfl rfl rfl rfl (Qk rfl rfl) ?_
        refine Qa rfl rfl rfl rfl (Qd rfl) ?_
        refine Qh rfl rfl rfl rfl rfl rfl rfl ?_
        refine Qh rfl rfl rfl rfl rfl rfl rfl ?_
        refine Qh rfl rfl rfl rfl rfl rfl rfl ?_
        refine Qa rfl rfl rfl rfl (Qk rfl rfl) ?_
        refine Qa rfl rfl rfl rfl (Qd rfl) ?_
        refine Qh rfl rfl rfl rfl rfl rfl rfl ?_
        refine Qa rfl rfl rfl rfl (Qk rfl rfl) ?_
        refine Qe ?_
        refine Xz rfl ?_
        refine QL ?_
        refine Qn ?_
        refine Qc ?_
        refine Qa rfl rfl rfl rfl (Qd rfl) ?_
        refine Qa rfl rfl rfl rfl (Qb rfl) ?_
        refine Qe ?_
        refine Qo [2] [] rfl rfl rfl rfl (by rw [hF]; rfl) ?_
        refine QB ?_
        obtain rfl := Qw hm
        refine ⟨[_], [], ⟨rfl, trivial⟩, ?_, rfl, rfl, rfl, rfl⟩
        rfl
      ·refine Qy 98 rfl rfl rfl (fun hq => ?_) (fun hq => ?_)
       ·refine Qm rfl rfl ?_
        refine Qa rfl rfl rfl rfl (Qd rfl) ?_
        refine Qa rfl rfl rfl rfl (Qp rfl rfl) ?_
        refine Qx [1, 7, 8, 100] [11] rfl rfl rfl rfl (by rw [hF]; rfl) ?_
        exact QA _ (by first | (rw [hq, Bool.true_and]; done) | (rw [hq]; rfl)) (hjj () trivial)
       ·refine Qh rfl rfl rfl rfl rfl rfl rfl ?_
        refine Qa rfl rfl rfl rfl (Qk rfl rfl) ?_
        refine Qx [1, 7, 8, 100] [11] rfl rfl rfl rfl (by rw [hF]; rfl) ?_
        exact QA _ (by first | (rw [hq, Bool.false_and]; done) | (rw [hq]; rfl)) (hjj () trivial)
     ·replace hm := QM hq hm
      refine Qn ?_
      refine Qc ?_
      refine Qa rfl rfl rfl rfl (Xq rfl rfl) ?_
      refine Qa rfl rfl rfl rfl (Qb rfl) ?_
      refine Qe ?_
      refine QI rfl (fun hq => ?_) (fun hq => ?_)
      ·replace hm := QO hq hm
       refine Qn ?_
       refine Qc ?_
       refine Qa rfl rfl rfl rfl (Qd rfl) ?_
       refine Qa rfl rfl rfl rfl (Qd rfl) ?_
       refine Qy 117 rfl rfl rfl (fun hq => ?_) (fun hq => ?_)
       ·replace hm := QO hq hm
        refine Qm rfl rfl ?_
        refine Qa rfl rfl rfl rfl (Qi fa77_2 rfl rfl) ?_
        refine Qm rfl rfl ?_
        refine Qa rfl rfl rfl rfl (Qj ag2 rfl rfl) ?_
        refine Qm rfl rfl ?_
        obtain ⟨r120, hr120, hm⟩ := Qv hm
        refine QG (c_impl_isEvent p0.Event r120 hr120) Try.call139 rfl rfl rfl rfl rfl ?_
        refine Qa rfl rfl rfl rfl (Qp rfl rfl) ?_
        refine Qa rfl rfl rfl rfl (Qd rfl) ?_
        refine Xb 2 (fun _ : Unit => ⟨[(6, .bool r20), (7, .bool (decide ((p0.Facts.length : Int) = (0 : Int)))), (8, .int .i64 (-1 : Int)), (124, .bool (r120 && r17))], []⟩) (fun _ => True) (fun _ _ => ?_) (fun hjj => ?_)
        ·refine Qa rfl rfl rfl rfl (Qd rfl) ?_
         refine Xb 2 (fun _ : Unit => ⟨[(7, .bool (decide ((p0.Facts.length : Int) = (0 : Int)))), (8, .int .i64 (-1 : Int)), (127, .bool ((r120 && r17) && r20))], []⟩) (fun _ => True) (fun _ _ => ?_) (fun hjj => ?_)
         ·refine Qa rfl rfl rfl rfl (Qd rfl) ?_
          refine Xb 2 (fun _ : Unit => ⟨[(8, .int .i64 (-1 : Int)), (130, .bool (((r120 && r17) && r20) && (decide ((p0.Facts.length : Int) = (0 : Int)))))], []⟩) (fun _ => True) (fun _ _ => ?_) (fun hjj => ?_)
          ·refine Qe ?_
           refine QI rfl (fun hq => ?_) (fun hq => ?_)
           ·replace hm := QO hq hm
            refine Qc ?_
            refine Qa rfl rfl rfl rfl (Qb rfl) ?_
            refine Qe ?_
            refine Qn ?_
            refine Qc ?_
            refine Qa rfl rfl rfl rfl (Qd rfl) ?_
            refine Qa rfl rfl rfl rfl (Qb rfl) ?_
            refine Qe ?_
            refine Qo [2] [] rfl rfl rfl rfl (by rw [hF]; rfl) ?_
            refine QB ?_
            obtain rfl := Qw hm
            refine ⟨[_], [], ⟨rfl, trivial⟩, ?_, rfl, rfl, rfl, rfl⟩
            rfl
           ·replace hm := QM hq hm
            refine QL ?_
            refine Qn ?_
            refine Qc ?_
            refine Qa rfl rfl rfl rfl (Qd rfl) ?_
            refine Qa rfl rfl rfl rfl (Qb rfl) ?_
            refine Qe ?_
            refine Qo [2] [] rfl rfl rfl rfl (by rw [hF]; rfl) ?_
            refine QB ?_
            obtain rfl := Qw hm
            refine ⟨[_], [], ⟨rfl, trivial⟩, ?_, rfl, rfl, rfl, rfl⟩
            rfl
          ·refine Qy 128 rfl rfl rfl (fun hq => ?_) (fun hq => ?_)
           ·refine Qm rfl rfl ?_
            refine Qa rfl rfl rfl rfl (Qd rfl) ?_
            refine Qa rfl rfl rfl rfl (Qp rfl rfl) ?_
            refine Qx [8, 130] [] rfl rfl rfl rfl (by rw [hF]; rfl) ?_
            exact QA _ (by first | (rw [hq, Bool.true_and]; done) | (rw [hq]; rfl)) (hjj () trivial)
           ·refine Qh rfl rfl rfl rfl rfl rfl rfl ?_
            refine Qa rfl rfl rfl rfl (Qk rfl rfl) ?_
            refine Qx [8, 130] [] rfl rfl rfl rfl (by rw [hF]; rfl) ?_
            exact QA _ (by first | (rw [hq, Bool.false_and]; done) | (rw [hq]; rfl)) (hjj () trivial)
         ·refine Qy 125 rfl rfl rfl (fun hq => ?_) (fun hq => ?_)
          ·refine Qm rfl rfl ?_
           refine Qa rfl rfl rfl rfl (Qd rfl) ?_
           refine Qa rfl rfl rfl rfl (Qp rfl rfl) ?_
           refine Qx [7, 8, 127] [] rfl rfl rfl rfl (by rw [hF]; rfl) ?_
           exact QA _ (by first | (rw [hq, Bool.true_and]; done) | (rw [hq]; rfl)) (hjj () trivial)
          ·refine Qh rfl rfl rfl rfl rfl rfl rfl ?_
           refine Qa rfl rfl rfl rfl (Qk rfl rfl) ?_
           refine Qx [7, 8, 127] [] rfl rfl rfl rfl (by rw [hF]; rfl) ?_
           exact QA _ (by first | (rw [hq, Bool.false_and]; done) | (rw [hq]; rfl)) (hjj () trivial)
        ·refine Qy 122 rfl rfl rfl (fun hq => ?_) (fun hq => ?_)
         ·refine Qm rfl rfl ?_
          refine Qa rfl rfl rfl rfl (Qd rfl) ?_
          refine Qa rfl rfl rfl rfl (Qp rfl rfl) ?_
          refine Qx [6, 7, 8, 124] [] rfl rfl rfl rfl (by rw [hF]; rfl) ?_
          exact QA _ (by first | (rw [hq, Bool.true_and]; done) | (rw [hq]; rfl)) (hjj () trivial)
         ·refine Qh rfl rfl rfl rfl rfl rfl rfl ?_
          refine Qa rfl rfl rfl rfl (Qk rfl rfl) ?_
          refine Qx [6, 7, 8, 124] [] rfl rfl rfl rfl (by rw [hF]; rfl) ?_
          exact QA _ (by first | (rw [hq, Bool.false_and]; done) | (rw [hq]; rfl)) (hjj () trivial)
       ·replace hm := QM hq hm
        refine Qh rfl rfl rfl rfl rfl rfl rfl ?_
        refine Qh rfl rfl rfl rfl rfl rfl rfl ?_
        refine Qh rfl rfl rfl rfl rfl rfl rfl ?_
        refine Qa rfl rfl rfl rfl (Qk rfl rfl) ?_
        refine Qa rfl rfl rfl rfl (Qd rfl) ?_
        refine Qh rfl rfl rfl rfl rfl rfl rfl ?_
        refine Qa rfl rfl rfl rfl (Qk rfl rfl) ?_
        refine Qa rfl rfl rfl rfl (Qd rfl) ?_
        refine Qh rfl rfl rfl rfl rfl rfl rfl ?_
        refine Qa rfl rfl rfl rfl (Qk rfl rfl) ?_
        refine Qa rfl rfl rfl rfl (Qd rfl) ?_
        refine Qh rfl rfl rfl rfl rfl rfl rfl ?_
        refine Qa rfl rfl rfl rfl (Qk rfl rfl) ?_
        refine Qe ?_
        refine Xz rfl ?_
        refine QL ?_
        refine Qn ?_
        refine Qc ?_
        refine Qa rfl rfl rfl rfl (Qd rfl) ?_
        refine Qa rfl rfl rfl rfl (Qb rfl) ?_
        refine Qe ?_
        refine Qo [2] [] rfl rfl rfl rfl (by rw [hF]; rfl) ?_
        refine QB ?_
        obtain rfl := Qw hm
        refine ⟨[_], [], ⟨rfl, trivial⟩, ?_, rfl, rfl, rfl, rfl⟩
        rfl
      ·replace hm := QM hq hm
       refine Qn ?_
       refine Qc ?_
       refine Qa rfl rfl rfl rfl (Xq rfl rfl) ?_
       refine Qa rfl rfl rfl rfl (Qb rfl) ?_
       refine Qe ?_
       refine QI rfl (fun hq => ?_) (fun hq => ?_)
       ·replace hm := QO hq hm
        refine Qn ?_
        refine Qc ?_
        refine Qa rfl rfl rfl rfl (Qd rfl) ?_
        refine Qa rfl rfl rfl rfl (Qd rfl) ?_
        refine Xb 2 (fun _ : Unit => ⟨[(1, .ptr 11 0 0), (6, .bool r20), (7, .bool (decide ((p0.Facts.length : Int) = (0 : Int)))), (8, .int .i64 (-1 : Int)), (136, .bool ((decide (p0.Var = (0 : Int))) && (decide (p0.Event = (0 : Int)))))], [(11, .box [.int .i64 p0.Kind, .int .i64 p0.Var, .int .i64 p0.Event, .int .i64 p0.Sum.Const, .sl 1 (List.map Qf p0.Sum.Coeffs), .int .i64 p0.Index.Const, .sl 1 (List.map Qf p0.Index.Coeffs), .sl 2 (List.map Qq p0.Facts)])]⟩) (fun _ => True) (fun _ _ => ?_) (fun hjj => ?_)
        ·refine Qa rfl rfl rfl rfl (Qd rfl) ?_
         refine Qy 137 rfl rfl rfl (fun hq => ?_) (fun hq => ?_)
         ·replace hm := QO hq hm
          refine Qm rfl rfl ?_
          refine Qa rfl rfl rfl rfl (Qi fa77_3 rfl rfl) ?_
          refine Qm rfl rfl ?_
          refine Qa rfl rfl rfl rfl (Qt ag75 sz75 rfl rfl rfl) ?_
          refine Qm rfl rfl ?_
          obtain ⟨r140, hr140, hm⟩ := Qv hm
          refine QG (c_impl_isOver p0.Sum r140 hr140) Try.call90 rfl rfl rfl rfl rfl ?_
          refine Qa rfl rfl rfl rfl (Qp rfl rfl) ?_
          refine Qa rfl rfl rfl rfl (Qd rfl) ?_
          refine Xb 2 (fun _ : Unit => ⟨[(7, .bool (decide ((p0.Facts.length : Int) = (0 : Int)))), (8, .int .i64 (-1 : Int)), (144, .bool (r140 && r20))], []⟩) (fun _ => True) (fun _ _ => ?_) (fun hjj => ?_)
          ·refine Qa rfl rfl rfl rfl (Qd rfl) ?_
           refine Xb 2 (fun _ : Unit => ⟨[(8, .int .i64 (-1 : Int)), (147, .bool ((r140 && r20) && (decide ((p0.Facts.length : Int) = (0 : Int)))))], []⟩) (fun _ => True) (fun _ _ => ?_) (fun hjj => ?_)
           ·refine Qe ?_
            refine QI rfl (fun hq => ?_) (fun hq => ?_)
            ·replace hm := QO hq hm
             refine Qc ?_
             refine Qa rfl rfl rfl rfl (Qb rfl) ?_
             refine Qe ?_
             refine Qn ?_
             refine Qc ?_
             refine Qa rfl rfl rfl rfl (Qd rfl) ?_
             refine Qa rfl rfl rfl rfl (Qb rfl) ?_
             refine Qe ?_
             refine Qo [2] [] rfl rfl rfl rfl (by rw [hF]; rfl) ?_
             refine QB ?_
             obtain rfl := Qw hm
             refine ⟨[_], [], ⟨rfl, trivial⟩, ?_, rfl, rfl, rfl, rfl⟩
             rfl
            ·replace hm := QM hq hm
             refine QL ?_
             refine Qn ?_
             refine Qc ?_
             refine Qa rfl rfl rfl rfl (Qd rfl) ?_
             refine Qa rfl rfl rfl rfl (Qb rfl) ?_
             refine Qe ?_
             refine Qo [2] [] rfl rfl rfl rfl (by rw [hF]; rfl) ?_
             refine QB ?_
             obtain rfl := Qw hm
             refine ⟨[_], [], ⟨rfl, trivial⟩, ?_, rfl, rfl, rfl, rfl⟩
             rfl
           ·refine Qy 145 rfl rfl rfl (fun hq => ?_) (fun hq => ?_)
            ·refine Qm rfl rfl ?_
             refine Qa rfl rfl rfl rfl (Qd rfl) ?_
             refine Qa rfl rfl rfl rfl (Qp rfl rfl) ?_
             refine Qx [8, 147] [] rfl rfl rfl rfl (by rw [hF]; rfl) ?_
             exact QA _ (by first | (rw [hq, Bool.true_and]; done) | (rw [hq]; rfl)) (hjj () trivial)
            ·refine Qh rfl rfl rfl rfl rfl rfl rfl ?_
             refine Qa rfl rfl rfl rfl (Qk rfl rfl) ?_
             refine Qx [8, 147] [] rfl rfl rfl rfl (by rw [hF]; rfl) ?_
             exact QA _ (by first | (rw [hq, Bool.false_and]; done) | (rw [hq]; rfl)) (hjj () trivial)
          ·refine Qy 142 rfl rfl rfl (fun hq => ?_) (fun hq => ?_)
           ·refine Qm rfl rfl ?_
            refine Qa rfl rfl rfl rfl (Qd rfl) ?_
            refine Qa rfl rfl rfl rfl (Qp rfl rfl) ?_
            refine Qx [7, 8, 144] [] rfl rfl rfl rfl (by rw [hF]; rfl) ?_
            exact QA _ (by first | (rw [hq, Bool.true_and]; done) | (rw [hq]; rfl)) (hjj () trivial)
           ·refine Qh rfl rfl rfl rfl rfl rfl rfl ?_
            refine Qa rfl rfl rfl rfl (Qk rfl rfl) ?_
            refine Qx [7, 8, 144] [] rfl rfl rfl rfl (by rw [hF]; rfl) ?_
            exact QA _ (by first | (rw [hq, Bool.false_and]; done) | (rw [hq]; rfl)) (hjj () trivial)
         ·replace hm := QM hq hm
          refine Qh rfl rfl rfl rfl rfl rfl rfl ?_
          refine Qh rfl rfl rfl rfl rfl rfl rfl ?_
          refine Qh rfl rfl rfl rfl rfl rfl rfl ?_
          refine Qa rfl rfl rfl rfl (Qk rfl rfl) ?_
          refine Qa rfl rfl rfl rfl (Qd rfl) ?_
          refine Qh rfl rfl rfl rfl rfl rfl rfl ?_
          refine Qa rfl rfl rfl rfl (Qk rfl rfl) ?_
          refine Qa rfl rfl rfl rfl (Qd rfl) ?_
          refine Qh rfl rfl rfl rfl rfl rfl rfl ?_
          refine Qa rfl rfl rfl rfl (Qk rfl rfl) ?_
          refine Qe ?_
          refine Xz rfl ?_
          refine QL ?_
          refine Qn ?_
          refine Qc ?_
          refine Qa rfl rfl rfl rfl (Qd rfl) ?_
          refine Qa rfl rfl rfl rfl (Qb rfl) ?_
          refine Qe ?_
          refine Qo [2] [] rfl rfl rfl rfl (by rw [hF]; rfl) ?_
          refine QB ?_
          obtain rfl := Qw hm
          refine ⟨[_], [], ⟨rfl, trivial⟩, ?_, rfl, rfl, rfl, rfl⟩
          rfl
        ·refine Qy 134 rfl rfl rfl (fun hq => ?_) (fun hq => ?_)
         ·refine Qm rfl rfl ?_
          refine Qa rfl rfl rfl rfl (Qd rfl) ?_
          refine Qa rfl rfl rfl rfl (Qp rfl rfl) ?_
          refine Qx [1, 6, 7, 8, 136] [11] rfl rfl rfl rfl (by rw [hF]; rfl) ?_
          exact QA _ (by first | (rw [hq, Bool.true_and]; done) | (rw [hq]; rfl)) (hjj () trivial)
         ·refine Qh rfl rfl rfl rfl rfl rfl rfl ?_
          refine Qa rfl rfl rfl rfl (Qk rfl rfl) ?_
          refine Qx [1, 6, 7, 8, 136] [11] rfl rfl rfl rfl (by rw [hF]; rfl) ?_
          exact QA _ (by first | (rw [hq, Bool.false_and]; done) | (rw [hq]; rfl)) (hjj () trivial)
       ·replace hm := QM hq hm
        refine Qn ?_
        refine Qc ?_
        refine Qa rfl rfl rfl rfl (Xq rfl rfl) ?_
        refine Qa rfl rfl rfl rfl (Qb rfl) ?_
        refine Qe ?_
        refine QI rfl (fun hq => ?_) (fun hq => ?_)
        ·replace hm := QO hq hm
         refine Qn ?_
         refine Qc ?_
         refine Qa rfl rfl rfl rfl (Qd rfl) ?_
         refine Qa rfl rfl rfl rfl (Qd rfl) ?_
         refine Xb 2 (fun _ : Unit => ⟨[(1, .ptr 11 0 0), (6, .bool r20), (7, .bool (decide ((p0.Facts.length : Int) = (0 : Int)))), (8, .int .i64 (-1 : Int)), (153, .bool ((decide (p0.Var = (0 : Int))) && (decide (p0.Event = (0 : Int)))))], [(11, .box [.int .i64 p0.Kind, .int .i64 p0.Var, .int .i64 p0.Event, .int .i64 p0.Sum.Const, .sl 1 (List.map Qf p0.Sum.Coeffs), .int .i64 p0.Index.Const, .sl 1 (List.map Qf p0.Index.Coeffs), .sl 2 (List.map Qq p0.Facts)])]⟩) (fun _ => True) (fun _ _ => ?_) (fun hjj => ?_)
         ·refine Qa rfl rfl rfl rfl (Qd rfl) ?_
          refine Qy 154 rfl rfl rfl (fun hq => ?_) (fun hq => ?_)
          ·replace hm := QO hq hm
           refine Qm rfl rfl ?_
           refine Qa rfl rfl rfl rfl (Qi fa77_3 rfl rfl) ?_
           refine Qm rfl rfl ?_
           refine Qa rfl rfl rfl rfl (Qt ag75 sz75 rfl rfl rfl) ?_
           refine Qm rfl rfl ?_
           obtain ⟨r157, hr157, hm⟩ := Qv hm
           refine QG (c_impl_isOver p0.Sum r157 hr157) Try.call90 rfl rfl rfl rfl rfl ?_
           refine Qa rfl rfl rfl rfl (Qp rfl rfl) ?_
           refine Qa rfl rfl rfl rfl (Qd rfl) ?_
           refine Xb 2 (fun _ : Unit => ⟨[(7, .bool (decide ((p0.Facts.length : Int) = (0 : Int)))), (8, .int .i64 (-1 : Int)), (161, .bool (r157 && r20))], []⟩) (fun _ => True) (fun _ _ => ?_) (fun hjj => ?_)
           ·refine Qa rfl rfl rfl rfl (Qd rfl) ?_
            refine Xb 2 (fun _ : Unit => ⟨[(8, .int .i64 (-1 : Int)), (164, .bool ((r157 && r20) && (decide ((p0.Facts.length : Int) = (0 : Int)))))], []⟩) (fun _ => True) (fun _ _ => ?_) (fun hjj => ?_)
            ·refine Qe ?_
             refine QI rfl (fun hq => ?_) (fun hq => ?_)
             ·replace hm := QO hq hm
              refine Qc ?_
              refine Qa rfl rfl rfl rfl (Qb rfl) ?_
              refine Qe ?_
              refine Qn ?_
              refine Qc ?_
              refine Qa rfl rfl rfl rfl (Qd rfl) ?_
              refine Qa rfl rfl rfl rfl (Qb rfl) ?_
              refine Qe ?_
              refine Qo [2] [] rfl rfl rfl rfl (by rw [hF]; rfl) ?_
              refine QB ?_
              obtain rfl := Qw hm
              refine ⟨[_], [], ⟨rfl, trivial⟩, ?_, rfl, rfl, rfl, rfl⟩
              rfl
             ·replace hm := QM hq hm
              refine QL ?_
              refine Qn ?_
              refine Qc ?_
              refine Qa rfl rfl rfl rfl (Qd rfl) ?_
              refine Qa rfl rfl rfl rfl (Qb rfl) ?_
              refine Qe ?_
              refine Qo [2] [] rfl rfl rfl rfl (by rw [hF]; rfl) ?_
              refine QB ?_
              obtain rfl := Qw hm
              refine ⟨[_], [], ⟨rfl, trivial⟩, ?_, rfl, rfl, rfl, rfl⟩
              rfl
            ·refine Qy 162 rfl rfl rfl (fun hq => ?_) (fun hq => ?_)
             ·refine Qm rfl rfl ?_
              refine Qa rfl rfl rfl rfl (Qd rfl) ?_
              refine Qa rfl rfl rfl rfl (Qp rfl rfl) ?_
              refine Qx [8, 164] [] rfl rfl rfl rfl (by rw [hF]; rfl) ?_
              exact QA _ (by first | (rw [hq, Bool.true_and]; done) | (rw [hq]; rfl)) (hjj () trivial)
             ·refine Qh rfl rfl rfl rfl rfl rfl rfl ?_
              refine Qa rfl rfl rfl rfl (Qk rfl rfl) ?_
              refine Qx [8, 164] [] rfl rfl rfl rfl (by rw [hF]; rfl) ?_
              exact QA _ (by first | (rw [hq, Bool.false_and]; done) | (rw [hq]; rfl)) (hjj () trivial)
           ·refine Qy 159 rfl rfl rfl (fun hq => ?_) (fun hq => ?_)
            ·refine Qm rfl rfl ?_
             refine Qa rfl rfl rfl rfl (Qd rfl) ?_
             refine Qa rfl rfl rfl rfl (Qp rfl rfl) ?_
             refine Qx [7, 8, 161] [] rfl rfl rfl rfl (by rw [hF]; rfl) ?_
             exact QA _ (by first | (rw [hq, Bool.true_and]; done) | (rw [hq]; rfl)) (hjj () trivial)
            ·refine Qh rfl rfl rfl rfl rfl rfl rfl ?_
             refine Qa rfl rfl rfl rfl (Qk rfl rfl) ?_
             refine Qx [7, 8, 161] [] rfl rfl rfl rfl (by rw [hF]; rfl) ?_
             exact QA _ (by first | (rw [hq, Bool.false_and]; done) | (rw [hq]; rfl)) (hjj () trivial)
          ·replace hm := QM hq hm
           refine Qh rfl rfl rfl rfl rfl rfl rfl ?_
           refine Qh rfl rfl rfl rfl rfl rfl rfl ?_
           refine Qh rfl rfl rfl rfl rfl rfl rfl ?_
           refine Qa rfl rfl rfl rfl (Qk rfl rfl) ?_
           refine Qa rfl rfl rfl rfl (Qd rfl) ?_
           refine Qh rfl rfl rfl rfl rfl rfl rfl ?_
           refine Qa rfl rfl rfl rfl (Qk rfl rfl) ?_
           refine Qa rfl rfl rfl rfl (Qd rfl) ?_
           refine Qh rfl rfl rfl rfl rfl rfl rfl ?_
           refine Qa rfl rfl rfl rfl (Qk rfl rfl) ?_
           refine Qe ?_
           refine Xz rfl ?_
           refine QL ?_
           refine Qn ?_
           refine Qc ?_
           refine Qa rfl rfl rfl rfl (Qd rfl) ?_
           refine Qa rfl rfl rfl rfl (Qb rfl) ?_
           refine Qe ?_
           refine Qo [2] [] rfl rfl rfl rfl (by rw [hF]; rfl) ?_
           refine QB ?_
           obtain rfl := Qw hm
           refine ⟨[_], [], ⟨rfl, trivial⟩, ?_, rfl, rfl, rfl, rfl⟩
           rfl
         ·refine Qy 151 rfl rfl rfl (fun hq => ?_) (fun hq => ?_)
          ·refine Qm rfl rfl ?_
           refine Qa rfl rfl rfl rfl (Qd rfl) ?_
           refine Qa rfl rfl rfl rfl (Qp rfl rfl) ?_
           refine Qx [1, 6, 7, 8, 153] [11] rfl rfl rfl rfl (by rw [hF]; rfl) ?_
           exact QA _ (by first | (rw [hq, Bool.true_and]; done) | (rw [hq]; rfl)) (hjj () trivial)
          ·refine Qh rfl rfl rfl rfl rfl rfl rfl ?_
           refine Qa rfl rfl rfl rfl (Qk rfl rfl) ?_
           refine Qx [1, 6, 7, 8, 153] [11] rfl rfl rfl rfl (by rw [hF]; rfl) ?_
           exact QA _ (by first | (rw [hq, Bool.false_and]; done) | (rw [hq]; rfl)) (hjj () trivial)
        ·replace hm := QM hq hm
         refine Qn ?_
         refine Qc ?_
         refine Qa rfl rfl rfl rfl (Xq rfl rfl) ?_
         refine Qa rfl rfl rfl rfl (Qb rfl) ?_
         refine Qe ?_
         refine QI rfl (fun hq => ?_) (fun hq => ?_)
         ·replace hm := QO hq hm
          refine Qn ?_
          refine Qc ?_
          refine Qa rfl rfl rfl rfl (Qd rfl) ?_
          refine Qa rfl rfl rfl rfl (Qd rfl) ?_
          refine Xb 2 (fun _ : Unit => ⟨[(1, .ptr 11 0 0), (6, .bool r20), (8, .int .i64 (-1 : Int)), (170, .bool ((decide (p0.Var = (0 : Int))) && (decide (p0.Event = (0 : Int)))))], [(11, .box [.int .i64 p0.Kind, .int .i64 p0.Var, .int .i64 p0.Event, .int .i64 p0.Sum.Const, .sl 1 (List.map Qf p0.Sum.Coeffs), .int .i64 p0.Index.Const, .sl 1 (List.map Qf p0.Index.Coeffs), .sl 2 (List.map Qq p0.Facts)])]⟩) (fun _ => True) (fun _ _ => ?_) (fun hjj => ?_)
          ·refine Qa rfl rfl rfl rfl (Qd rfl) ?_
           refine Qy 171 rfl rfl rfl (fun hq => ?_) (fun hq => ?_)
           ·replace hm := QO hq hm
            refine Qm rfl rfl ?_
            refine Qa rfl rfl rfl rfl (Qi fa77_3 rfl rfl) ?_
            refine Qm rfl rfl ?_
            refine Qa rfl rfl rfl rfl (Qt ag75 sz75 rfl rfl rfl) ?_
            refine Qm rfl rfl ?_
            obtain ⟨r174, hr174, hm⟩ := Qv hm
            refine QG (c_impl_isOver p0.Sum r174 hr174) Try.call90 rfl rfl rfl rfl rfl ?_
            refine Qa rfl rfl rfl rfl (Qp rfl rfl) ?_
            refine Qa rfl rfl rfl rfl (Qd rfl) ?_
            refine Xb 2 (fun _ : Unit => ⟨[(1, .ptr 11 0 0), (8, .int .i64 (-1 : Int)), (178, .bool (r174 && r20))], [(11, .box [.int .i64 p0.Kind, .int .i64 p0.Var, .int .i64 p0.Event, .int .i64 p0.Sum.Const, .sl 1 (List.map Qf p0.Sum.Coeffs), .int .i64 p0.Index.Const, .sl 1 (List.map Qf p0.Index.Coeffs), .sl 2 (List.map Qq p0.Facts)])]⟩) (fun _ => True) (fun _ _ => ?_) (fun hjj => ?_)
            ·refine Qa rfl rfl rfl rfl (Qd rfl) ?_
             refine Qy 179 rfl rfl rfl (fun hq => ?_) (fun hq => ?_)
             ·replace hm := QO hq hm
              refine Qm rfl rfl ?_
              refine Qa rfl rfl rfl rfl (Qi fa77_5 rfl rfl) ?_
              refine Qm rfl rfl ?_
              refine Qa rfl rfl rfl rfl (Qj ag24 rfl rfl) ?_
              refine Qm rfl rfl ?_
              obtain ⟨r182, hr182, hm⟩ := Qv hm
              refine QG (c_impl_areOver p0.Facts (6 : Int) r182 hr182) Try.call49 rfl rfl rfl rfl rfl ?_
              refine Qa rfl rfl rfl rfl (Qp rfl rfl) ?_
              refine Qe ?_
              refine QI rfl (fun hq => ?_) (fun hq => ?_)
              ·replace hm := QO hq hm
               refine Qc ?_
               refine Qa rfl rfl rfl rfl (Qb rfl) ?_
               refine Qe ?_
               refine Qn ?_
               refine Qc ?_
               refine Qa rfl rfl rfl rfl (Qd rfl) ?_
               refine Qa rfl rfl rfl rfl (Qb rfl) ?_
               refine Qe ?_
               refine Qo [2] [] rfl rfl rfl rfl (by rw [hF]; rfl) ?_
               refine QB ?_
               obtain rfl := Qw hm
               refine ⟨[_], [], ⟨rfl, trivial⟩, ?_, rfl, rfl, rfl, rfl⟩
               rfl
              ·replace hm := QM hq hm
               refine QL ?_
               refine Qn ?_
               refine Qc ?_
               refine Qa rfl rfl rfl rfl (Qd rfl) ?_
               refine Qa rfl rfl rfl rfl (Qb rfl) ?_
               refine Qe ?_
               refine Qo [2] [] rfl rfl rfl rfl (by rw [hF]; rfl) ?_
               refine QB ?_
               obtain rfl := Qw hm
               refine ⟨[_], [], ⟨rfl, trivial⟩, ?_, rfl, rfl, rfl, rfl⟩
               rfl
             ·replace hm := QM hq hm
              refine Qh rfl rfl rfl rfl rfl rfl rfl ?_
              refine Qh rfl rfl rfl rfl rfl rfl rfl ?_
              refine Qh rfl rfl rfl rfl rfl rfl rfl ?_
              refine Qa rfl rfl rfl rfl (Qk rfl rfl) ?_
              refine Qe ?_
              refine Xz rfl ?_
              refine QL ?_
              refine Qn ?_
              refine Qc ?_
              refine Qa rfl rfl rfl rfl (Qd rfl) ?_
              refine Qa rfl rfl rfl rfl (Qb rfl) ?_
              refine Qe ?_
              refine Qo [2] [] rfl rfl rfl rfl (by rw [hF]; rfl) ?_
              refine QB ?_
              obtain rfl := Qw hm
              refine ⟨[_], [], ⟨rfl, trivial⟩, ?_, rfl, rfl, rfl, rfl⟩
              rfl
            ·refine Qy 176 rfl rfl rfl (fun hq => ?_) (fun hq => ?_)
             ·refine Qm rfl rfl ?_
              refine Qa rfl rfl rfl rfl (Qd rfl) ?_
              refine Qa rfl rfl rfl rfl (Qp rfl rfl) ?_
              refine Qx [1, 8, 178] [11] rfl rfl rfl rfl (by rw [hF]; rfl) ?_
              exact QA _ (by first | (rw [hq, Bool.true_and]; done) | (rw [hq]; rfl)) (hjj () trivial)
             ·refine Qh rfl rfl rfl rfl rfl rfl rfl ?_
              refine Qa rfl rfl rfl rfl (Qk rfl rfl) ?_
              refine Qx [1, 8, 178] [11] rfl rfl rfl rfl (by rw [hF]; rfl) ?_
              exact QA _ (by first | (rw [hq, Bool.false_and]; done) | (rw [hq]; rfl)) (hjj () trivial)
           ·replace hm := QM hq hm
            refine Qh rfl rfl rfl rfl rfl rfl rfl ?_
            refine Qh rfl rfl rfl rfl rfl rfl rfl ?_
            refine Qh rfl rfl rfl rfl rfl rfl rfl ?_
            refine Qa rfl rfl rfl rfl (Qk rfl rfl) ?_
            refine Qa rfl rfl rfl rfl (Qd rfl) ?_
            refine Qh rfl rfl rfl rfl rfl rfl rfl ?_
            refine Qa rfl rfl rfl rfl (Qk rfl rfl) ?_
            refine Qa rfl rfl rfl rfl (Qd rfl) ?_
            refine Qh rfl rfl rfl rfl rfl rfl rfl ?_
            refine Qh rfl rfl rfl rfl rfl rfl rfl ?_
            refine Qh rfl rfl rfl rfl rfl rfl rfl ?_
            refine Qa rfl rfl rfl rfl (Qk rfl rfl) ?_
            refine Qe ?_
            refine Xz rfl ?_
            refine QL ?_
            refine Qn ?_
            refine Qc ?_
            refine Qa rfl rfl rfl rfl (Qd rfl) ?_
            refine Qa rfl rfl rfl rfl (Qb rfl) ?_
            refine Qe ?_
            refine Qo [2] [] rfl rfl rfl rfl (by rw [hF]; rfl) ?_
            refine QB ?_
            obtain rfl := Qw hm
            refine ⟨[_], [], ⟨rfl, trivial⟩, ?_, rfl, rfl, rfl, rfl⟩
            rfl
          ·refine Qy 168 rfl rfl rfl (fun hq => ?_) (fun hq => ?_)
           ·refine Qm rfl rfl ?_
            refine Qa rfl rfl rfl rfl (Qd rfl) ?_
            refine Qa rfl rfl rfl rfl (Qp rfl rfl) ?_
            refine Qx [1, 6, 8, 170] [11] rfl rfl rfl rfl (by rw [hF]; rfl) ?_
            exact QA _ (by first | (rw [hq, Bool.true_and]; done) | (rw [hq]; rfl)) (hjj () trivial)
           ·refine Qh rfl rfl rfl rfl rfl rfl rfl ?_
            refine Qa rfl rfl rfl rfl (Qk rfl rfl) ?_
            refine Qx [1, 6, 8, 170] [11] rfl rfl rfl rfl (by rw [hF]; rfl) ?_
            exact QA _ (by first | (rw [hq, Bool.false_and]; done) | (rw [hq]; rfl)) (hjj () trivial)
         ·replace hm := QM hq hm
          refine QL ?_
          refine Qn ?_
          refine Qc ?_
          refine Qa rfl rfl rfl rfl (Qd rfl) ?_
          refine Qa rfl rfl rfl rfl (Qb rfl) ?_
          refine Qe ?_
          refine Qo [2] [] rfl rfl rfl rfl (by rw [hF]; rfl) ?_
          refine QB ?_
          obtain rfl := Qw hm
          refine ⟨[_], [], ⟨rfl, trivial⟩, ?_, rfl, rfl, rfl, rfl⟩
          rfl
theorem c_impl_treeAt_F (rec_impl_treeAt : (List Stmt) → Int → Option (Ptree × Int × Bool)) (hrec_impl_treeAt : ∀ (p0 : List Stmt) (p1 : Int) (out : Ptree × Int × Bool), rec_impl_treeAt p0 p1 = some out → ACall Try.prog 98 [.sl 8 (List.map QZ p0), .int .i64 p1] [] (.tup [Qg out.1, .int .i64 out.2.1, .bool out.2.2]) []) (p0 : List Stmt) (p1 : Int) (out : Ptree × Int × Bool) (hm : m_impl_treeAt_F rec_impl_treeAt p0 p1 = some out) : ACall Try.prog 98 [.sl 8 (List.map QZ p0), .int .i64 p1] [] (.tup [Qg out.1, .int .i64 out.2.1, .bool out.2.2]) [] := by
 refine ACall.intro Try.func98 rfl Try.ntmps98 rfl (fun F hF => ?_)
 unfold m_impl_treeAt_F at hm
 refine Qn ?_
 refine Qc ?_
 refine Qa rfl rfl rfl rfl (Qb rfl) ?_
 refine Qa rfl rfl rfl rfl (Qb rfl) ?_
 refine Qa rfl rfl rfl rfl (Qb rfl) ?_
 refine Qe ?_
 refine Qn ?_
 refine Qn ?_
 refine Qc ?_
 refine Qa rfl rfl rfl rfl (Qd rfl) ?_
 refine Qa rfl rfl rfl rfl (Qd rfl) ?_
 refine Qa rfl rfl rfl rfl (Xm Try.underlying25 rfl (List.length_map _)) ?_
 refine Xy (fun _ _ _ hr => RelP.slLen (i := 13) rfl hr) (fun hlen14 => ?_)
 rw [List.length_map] at hlen14
 refine Qa rfl rfl rfl rfl (op_geq rfl rfl) ?_
 refine Qe ?_
 refine QI rfl (fun hq => ?_) (fun hq => ?_)
 ·replace hm := QO hq hm
  refine Qn ?_
  refine Qc ?_
  refine Qa rfl rfl rfl rfl (Qb rfl) ?_
  refine Qa rfl rfl rfl rfl (Qb rfl) ?_
  refine Qa rfl rfl rfl rfl (Qb rfl) ?_
  refine Qe ?_
  refine T_trAt 4 (x' := Qg (.nil : Ptree)) rfl (TrR_nil) rfl ?_
  refine Qo [4, 5, 6] [] rfl rfl rfl rfl (by rw [hF]; rfl) ?_
  refine QB ?_
  obtain rfl := Qw hm
  refine ⟨[_, _, _], [], ⟨rfl, rfl, rfl, trivial⟩, ?_, rfl, rfl, rfl, rfl⟩
  rfl
 ·replace hm := QM hq hm
  refine QL ?_
  refine Qn ?_
  refine Qc ?_
  refine Qa rfl rfl rfl rfl (Qd rfl) ?_
  refine Qa rfl rfl rfl rfl (Qd rfl) ?_
  obtain ⟨x18, hx18, hm⟩ := Qv hm
  refine Qa rfl rfl rfl rfl (Xi el25 rfl rfl hx18 rfl) ?_
  refine Qa rfl rfl rfl rfl (Qt ag77 sz77 rfl rfl rfl) ?_
  obtain ⟨r20, hr20, hm⟩ := Qv hm
  refine QG (c_impl_kidsOf x18 r20 hr20) Try.call125 rfl rfl rfl rfl rfl ?_
  refine Qa rfl rfl rfl rfl (Qb rfl) ?_
  refine Qe ?_
  refine Qn ?_
  refine Qn ?_
  refine Qc ?_
  refine Qa rfl rfl rfl rfl (Qd rfl) ?_
  refine Qa rfl rfl rfl rfl (op_lss rfl rfl) ?_
  refine Qe ?_
  refine QI rfl (fun hq => ?_) (fun hq => ?_)
  ·replace hm := QO hq hm
   refine Qn ?_
   refine Qc ?_
   refine Qa rfl rfl rfl rfl (Qb rfl) ?_
   refine Qa rfl rfl rfl rfl (Qb rfl) ?_
   refine Qa rfl rfl rfl rfl (Qb rfl) ?_
   refine Qe ?_
   refine T_trAt 4 (x' := Qg (.nil : Ptree)) rfl (TrR_nil) rfl ?_
   refine Qo [4, 5, 6] [] rfl rfl rfl rfl (by rw [hF]; rfl) ?_
   refine QB ?_
   obtain rfl := Qw hm
   refine ⟨[_, _, _], [], ⟨rfl, rfl, rfl, trivial⟩, ?_, rfl, rfl, rfl, rfl⟩
   rfl
  ·replace hm := QM hq hm
   refine QL ?_
   refine Qn ?_
   refine Qc ?_
   refine Qa rfl rfl rfl rfl (Qd rfl) ?_
   refine Qa rfl rfl rfl rfl (Qd rfl) ?_
   refine Qa rfl rfl rfl rfl (Xi el25 rfl rfl hx18 rfl) ?_
   refine Qa rfl rfl rfl rfl (Qt ag77 sz77 rfl rfl rfl) ?_
   refine Qa rfl rfl rfl rfl (Qd rfl) ?_
   refine Qa rfl rfl rfl rfl (Xn pl132 z132 rfl rfl rfl rfl rfl) ?_
   refine TL_box 11 rfl rfl rfl rfl rfl rfl rfl ?_
   refine Qa rfl rfl rfl rfl (Qb rfl) ?_
   refine Qe ?_
   refine Qn ?_
   refine Qc ?_
   refine Qa rfl rfl rfl rfl (Qd rfl) ?_
   refine Qa rfl rfl rfl rfl (op_addW rfl rfl) ?_
   refine Qa rfl rfl rfl rfl (Qb rfl) ?_
   refine Qe ?_
   refine Qn ?_
   refine Xd ?_
   refine Xo 11 9 16 ⟨false, false⟩ 88 rfl rfl rfl (sz := 1) rfl rfl rfl rfl ?_
   refine Qo [0, 1, 7, 8] [11, 16] rfl rfl rfl rfl (by rw [hF]; rfl) ?_
   refine T_ren [(11, 11), (16, 70001)] rfl rfl rfl (by rw [hF]; rfl) ?_
   refine T_loop ?_
   obtain ⟨u0, hl0, hm⟩ := Qv hm
   refine TR_iter2 (m_impl_treeAt_F_L0 rec_impl_treeAt p0) (fun (s0 : Int × Int × (List Ptree)) => ⟨[(0, .sl 8 (List.map QZ p0)), (1, .int .i64 s0.1), (7, .int .i64 s0.2.1), (8, .ptr 11 0 0)], [(11, .box [.int .i64 x18.Kind, .int .i64 x18.Var, .int .i64 x18.Event, .int .i64 x18.Sum.Const, .sl 1 (List.map Qf x18.Sum.Coeffs), .int .i64 x18.Index.Const, .sl 1 (List.map Qf x18.Index.Coeffs), .sl 2 (List.map Qq x18.Facts), .int .i64 p1, .ow 70001]), (70001, .arr ⟨false, false⟩ 1 88 (List.map Qg s0.2.2))]⟩) (fun u0 => match u0 with | .inl u0 => .exit 0 | .inr u0 => .ret) (fun u0 => match u0 with | .inl u0 => ⟨[(1, .int .i64 u0.1), (8, .ptr 11 0 0)], [(11, .box [.int .i64 x18.Kind, .int .i64 x18.Var, .int .i64 x18.Event, .int .i64 x18.Sum.Const, .sl 1 (List.map Qf x18.Sum.Coeffs), .int .i64 x18.Index.Const, .sl 1 (List.map Qf x18.Index.Coeffs), .sl 2 (List.map Qq x18.Facts), .int .i64 p1, .ow 70001]), (70001, .arr ⟨false, false⟩ 1 88 (List.map Qg u0.2))]⟩ | .inr u0 => ⟨[(4, Qg u0.1), (5, .int .i64 u0.2.1), (6, .bool u0.2.2)], []⟩) (fun u0 => m_impl_treeAt_F_A0 p1 x18 u0 = some out) hl0 hm (fun u0 hm => ?_) (fun hx0 s0 c0 hm hc0 => ?_)
   ·rcases u0 with u0 | u0
    ·unfold m_impl_treeAt_F_A0 at hm
     refine Qn ?_
     refine Qc ?_
     refine Qa rfl rfl rfl rfl (Qd rfl) ?_
     refine Qa rfl rfl rfl rfl (Qd rfl) ?_
     refine Qa rfl rfl rfl rfl (Qb rfl) ?_
     refine Qa rfl rfl rfl rfl (Qb rfl) ?_
     refine Qa rfl rfl rfl rfl (Qb rfl) ?_
     refine Qe ?_
     refine T_freeze 70001 (by rw [hF]; rfl) rfl rfl rfl ?_
     refine T_freezeB 11 (by rw [hF]; rfl) rfl rfl rfl rfl ?_
     refine T_trAt 4 (x' := Qg (re_tree (tree.mk x18 p1 u0.2))) rfl (TrR_fold (re_tree_eq (tree.mk x18 p1 u0.2))) rfl ?_
     refine Qo [4, 5, 6] [] rfl rfl rfl rfl (by rw [hF]; rfl) ?_
     refine QB ?_
     obtain rfl := Qw hm
     refine ⟨[_, _, _], [], ⟨rfl, rfl, rfl, trivial⟩, ?_, rfl, rfl, rfl, rfl⟩
     rfl
    ·unfold m_impl_treeAt_F_A0 at hm
     obtain rfl := Qw hm
     refine ⟨[_, _, _], [], ⟨rfl, rfl, rfl, trivial⟩, ?_, rfl, rfl, rfl, rfl⟩
     rfl
   ·unfold m_impl_treeAt_F_L0 at hm
    refine Qn ?_
    refine Qn ?_
    refine Qc ?_
    refine Qa rfl rfl rfl rfl (Qd rfl) ?_
    refine Qa rfl rfl rfl rfl (op_gtr rfl rfl) ?_
    refine Qe ?_
    refine QI rfl (fun hq => ?_) (fun hq => ?_)
    ·replace hm := QO hq hm
     refine QL ?_
     refine Qn ?_
     refine Xd ?_
     refine Qn ?_
     refine Qc ?_
     refine Qa rfl rfl rfl rfl (Qd rfl) ?_
     refine Qa rfl rfl rfl rfl (Qd rfl) ?_
     obtain ⟨r39, hr39, hm⟩ := Qv hm
     refine TL_callT (hrec_impl_treeAt p0 s0.1 r39 hr39) Try.call98 rfl rfl rfl rfl rfl ?_
     refine Qa rfl rfl rfl rfl (Qd rfl) ?_
     refine Qa rfl rfl rfl rfl (QH rfl rfl) ?_
     refine Qa rfl rfl rfl rfl (QH rfl rfl) ?_
     refine Qa rfl rfl rfl rfl (QH rfl rfl) ?_
     refine Qa rfl rfl rfl rfl (Qb rfl) ?_
     refine Qa rfl rfl rfl rfl (Qb rfl) ?_
     refine Qa rfl rfl rfl rfl (Qb rfl) ?_
     refine Qe ?_
     refine Qn ?_
     refine Qn ?_
     refine Qc ?_
     refine Qa rfl rfl rfl rfl (Qd rfl) ?_
     refine Qa rfl rfl rfl rfl (op_not rfl) ?_
     refine Qe ?_
     refine QI rfl (fun hq => ?_) (fun hq => ?_)
     ·replace hm := QO hq hm
      refine Qn ?_
      refine Qc ?_
      refine Qa rfl rfl rfl rfl (Qb rfl) ?_
      refine Qa rfl rfl rfl rfl (Qb rfl) ?_
      refine Qa rfl rfl rfl rfl (Qb rfl) ?_
      refine Qe ?_
      refine T_trAt 4 (x' := Qg (.nil : Ptree)) rfl (TrR_nil) rfl ?_
      refine Qo [4, 5, 6] [] rfl rfl rfl rfl (by rw [hF]; rfl) ?_
      refine QB ?_
      obtain rfl := Qw hm
      have hn := Xv hc0
      exact hx0 (.inr ((.nil : Ptree), (0 : Int), false)) hn
     ·replace hm := QM hq hm
      refine QL ?_
      refine Qn ?_
      refine Qc ?_
      refine Qa rfl rfl rfl rfl (Qd rfl) ?_
      refine Qa rfl rfl rfl rfl (Qd rfl) ?_
      refine Qa rfl rfl rfl rfl (Qs rfl rfl) ?_
      refine Qa rfl rfl rfl rfl (Qi fa132_2 rfl rfl) ?_
      refine Qa rfl rfl rfl rfl (Qj ag129 rfl rfl) ?_
      refine Qa rfl rfl rfl rfl (Qd rfl) ?_
      refine QD 15 (es := List.map Qg [r39.1]) el129 z88 rfl rfl rfl rfl rfl rfl rfl rfl rfl ?_
      obtain ⟨q52, hq52, hm⟩ := Qv hm
      refine Xc (f := Qg) (a := s0.2.2) (b := [r39.1]) el129 z88 rfl rfl rfl rfl rfl rfl rfl (Xa hq52) rfl rfl rfl rfl rfl ?_
      refine Qa rfl rfl rfl rfl (Qs rfl rfl) ?_
      refine Qa rfl rfl rfl rfl (Qi fa132_2 rfl rfl) ?_
      refine Qr sz129 rfl rfl rfl rfl rfl rfl rfl rfl rfl ?_
      refine Qe ?_
      refine Qc ?_
      refine Qa rfl rfl rfl rfl (Qd rfl) ?_
      refine Qa rfl rfl rfl rfl (Qb rfl) ?_
      refine Qe ?_
      refine Qc ?_
      refine Qa rfl rfl rfl rfl (Qd rfl) ?_
      refine Qa rfl rfl rfl rfl (op_subW rfl rfl) ?_
      refine Qa rfl rfl rfl rfl (Qb rfl) ?_
      refine Qe ?_
      refine Xw [0, 1, 7, 8] [11, 70001] rfl rfl rfl rfl (by rw [hF]; rfl) ?_
      obtain rfl := Qw hm
      have hn := Q7 hc0
      exact hn _ rfl
    ·replace hm := QM hq hm
     refine Qo [1, 8] [11, 70001] rfl rfl rfl rfl (by rw [hF]; rfl) ?_
     refine T_exit ?_
     obtain rfl := Qw hm
     have hn := Xv hc0
     exact hx0 (.inl (s0.1, s0.2.2)) hn
theorem c_impl_treeAt : ∀ (n : Nat) (p0 : List Stmt) (p1 : Int) (out : Ptree × Int × Bool), m_impl_treeAt n p0 p1 = some out → ACall Try.prog 98 [.sl 8 (List.map QZ p0), .int .i64 p1] [] (.tup [Qg out.1, .int .i64 out.2.1, .bool out.2.2]) [] := by
 intro n
 induction n with
 | zero => intro p0 p1 out hm; cases hm
 | succ n ih => intro p0 p1 out hm; exact c_impl_treeAt_F (m_impl_treeAt n) ih p0 p1 out hm
theorem c_impl_treeOf (p0 : List Stmt) (out : Ptree × Bool) (hm : m_impl_treeOf p0 = some out) : ACall Try.prog 55 [.sl 8 (List.map QZ p0)] [] (.tup [Qg out.1, .bool out.2]) [] := by
 refine ACall.intro Try.func55 rfl Try.ntmps55 rfl (fun F hF => ?_)
 unfold m_impl_treeOf at hm
 refine Qn ?_
 refine Qc ?_
 refine Qa rfl rfl rfl rfl (Qb rfl) ?_
 refine Qa rfl rfl rfl rfl (Qb rfl) ?_
 refine Qe ?_
 refine Qn ?_
 refine Qn ?_
 refine Qc ?_
 refine Qa rfl rfl rfl rfl (Qd rfl) ?_
 refine Qa rfl rfl rfl rfl (Xm Try.underlying25 rfl (List.length_map _)) ?_
 refine Xy (fun _ _ _ hr => RelP.slLen (i := 7) rfl hr) (fun hlen8 => ?_)
 rw [List.length_map] at hlen8
 refine Qa rfl rfl rfl rfl (op_gtr rfl rfl) ?_
 refine Qe ?_
 refine QI rfl (fun hq => ?_) (fun hq => ?_)
 ·replace hm := QO hq hm
  refine Qn ?_
  refine Qc ?_
  refine Qa rfl rfl rfl rfl (Qb rfl) ?_
  refine Qa rfl rfl rfl rfl (Qb rfl) ?_
  refine Qe ?_
  refine T_trAt 2 (x' := Qg (.nil : Ptree)) rfl (TrR_nil) rfl ?_
  refine Qo [2, 3] [] rfl rfl rfl rfl (by rw [hF]; rfl) ?_
  refine QB ?_
  obtain rfl := Qw hm
  refine ⟨[_, _], [], ⟨rfl, rfl, trivial⟩, ?_, rfl, rfl, rfl, rfl⟩
  rfl
 ·replace hm := QM hq hm
  refine QL ?_
  refine Qn ?_
  refine Qc ?_
  refine Qa rfl rfl rfl rfl (Qd rfl) ?_
  obtain ⟨r12, hr12, hm⟩ := Qv hm
  refine TL_callT (c_impl_treeAt 1000 p0 (0 : Int) r12 hr12) Try.call98 rfl rfl rfl rfl rfl ?_
  refine Qa rfl rfl rfl rfl (Qd rfl) ?_
  refine Qa rfl rfl rfl rfl (QH rfl rfl) ?_
  refine Qa rfl rfl rfl rfl (QH rfl rfl) ?_
  refine Qa rfl rfl rfl rfl (QH rfl rfl) ?_
  refine Qa rfl rfl rfl rfl (Qb rfl) ?_
  refine Qa rfl rfl rfl rfl (Qb rfl) ?_
  refine Qa rfl rfl rfl rfl (Qb rfl) ?_
  refine Qe ?_
  refine Qn ?_
  refine Qc ?_
  refine Qa rfl rfl rfl rfl (Qd rfl) ?_
  refine Qa rfl rfl rfl rfl (Qd rfl) ?_
  refine Qa rfl rfl rfl rfl (Qd rfl) ?_
  refine Xb 5 (fun _ : Unit => ⟨[(16, Qg r12.1), (23, .bool (r12.2.2 && (decide (r12.2.1 = (p0.length : Int)))))], []⟩) (fun _ => True) (fun _ _ => ?_) (fun hjj => ?_)
  ·refine Qa rfl rfl rfl rfl (Qb rfl) ?_
   refine Qa rfl rfl rfl rfl (Qb rfl) ?_
   refine Qe ?_
   refine Qo [2, 3] [] rfl rfl rfl rfl (by rw [hF]; rfl) ?_
   refine QB ?_
   obtain rfl := Qw hm
   refine ⟨[_, _], [], ⟨rfl, rfl, trivial⟩, ?_, rfl, rfl, rfl, rfl⟩
   rfl
  ·refine Qy 18 rfl rfl rfl (fun hq => ?_) (fun hq => ?_)
   ·refine Qm rfl rfl ?_
    refine Qa rfl rfl rfl rfl (Qd rfl) ?_
    refine Qm rfl rfl ?_
    refine Qa rfl rfl rfl rfl (Qd rfl) ?_
    refine Qm rfl rfl ?_
    refine Qa rfl rfl rfl rfl (Xm Try.underlying25 rfl (List.length_map _)) ?_
    refine Qm rfl rfl ?_
    refine Qa rfl rfl rfl rfl (Xq rfl rfl) ?_
    refine Qa rfl rfl rfl rfl (Qp rfl rfl) ?_
    refine Qx [16, 23] [] rfl rfl rfl rfl (by rw [hF]; rfl) ?_
    exact QA _ (by first | (rw [hq, Bool.true_and]; done) | (rw [hq]; rfl)) (hjj () trivial)
   ·refine Qh rfl rfl rfl rfl rfl rfl rfl ?_
    refine Qh rfl rfl rfl rfl rfl rfl rfl ?_
    refine Qh rfl rfl rfl rfl rfl rfl rfl ?_
    refine Qh rfl rfl rfl rfl rfl rfl rfl ?_
    refine Qa rfl rfl rfl rfl (Qk rfl rfl) ?_
    refine Qx [16, 23] [] rfl rfl rfl rfl (by rw [hF]; rfl) ?_
    exact QA _ (by first | (rw [hq, Bool.false_and]; done) | (rw [hq]; rfl)) (hjj () trivial)
theorem c_slices_Equal_int64_int64 (p0 : List Int) (p1 : List Int) (out : Bool) (hm : m_slices_Equal_int64_int64 p0 p1 = some out) : ACall Try.prog 140 [.sl 1 (List.map Qf p0), .sl 1 (List.map Qf p1)] [] (.bool out) [] := by
 refine ACall.intro Try.func140 rfl Try.ntmps140 rfl (fun F hF => ?_)
 unfold m_slices_Equal_int64_int64 at hm
 refine Qn ?_
 refine Qc ?_
 refine Qa rfl rfl rfl rfl (Qb rfl) ?_
 refine Qe ?_
 refine Qn ?_
 refine Qn ?_
 refine Qc ?_
 refine Qa rfl rfl rfl rfl (Qd rfl) ?_
 refine Qa rfl rfl rfl rfl (Xm Try.underlying29 rfl (List.length_map _)) ?_
 refine Xy (fun _ _ _ hr => RelP.slLen (i := 6) rfl hr) (fun hlen7 => ?_)
 rw [List.length_map] at hlen7
 refine Qa rfl rfl rfl rfl (Qd rfl) ?_
 refine Qa rfl rfl rfl rfl (Xm Try.underlying29 rfl (List.length_map _)) ?_
 refine Xy (fun _ _ _ hr => RelP.slLen (i := 8) rfl hr) (fun hlen9 => ?_)
 rw [List.length_map] at hlen9
 refine Qa rfl rfl rfl rfl (op_neq rfl rfl) ?_
 refine Qe ?_
 refine QI rfl (fun hq => ?_) (fun hq => ?_)
 ·replace hm := QO hq hm
  refine Qn ?_
  refine Qc ?_
  refine Qa rfl rfl rfl rfl (Qb rfl) ?_
  refine Qe ?_
  refine Qo [4] [] rfl rfl rfl rfl (by rw [hF]; rfl) ?_
  refine QB ?_
  obtain rfl := Qw hm
  refine ⟨[_], [], ⟨rfl, trivial⟩, ?_, rfl, rfl, rfl, rfl⟩
  rfl
 ·replace hm := QM hq hm
  refine QL ?_
  refine Qn ?_
  refine Qn ?_
  refine Qc ?_
  refine Qa rfl rfl rfl rfl (Qd rfl) ?_
  refine Qa rfl rfl rfl rfl (Xm Try.underlying29 rfl (List.length_map _)) ?_
  refine Qa rfl rfl rfl rfl (Qd rfl) ?_
  refine Qe ?_
  refine Xd ?_
  refine Qo [0, 1, 12, 13] [] rfl rfl rfl rfl (by rw [hF]; rfl) ?_
  refine T_loop ?_
  obtain ⟨u0, hl0, hm⟩ := Qv hm
  refine TR_forL2 p0 (m_slices_Equal_int64_int64_L0 p1) (fun (s0 : Unit) => (.inl ())) (fun n0 (s0 : Unit) => ⟨[(0, .sl 1 (List.map Qf p0)), (1, .sl 1 (List.map Qf p1)), (12, .int .i64 (p0.length : Int)), (13, .int .i64 (n0 : Int))], []⟩) (fun u0 => match u0 with | .inl u0 => .exit 0 | .inr u0 => .ret) (fun u0 => match u0 with | .inl u0 => ⟨[], []⟩ | .inr u0 => ⟨[(4, .bool u0)], []⟩) (fun u0 => m_slices_Equal_int64_int64_A0 u0 = some out) hl0 hm (fun u0 hm => ?_) (fun hx0 s0 hm => ?_) (fun hx0 n0 x0 s0 c0 hxn0 hlt0 hm hc0 => ?_)
  ·rcases u0 with u0 | u0
   ·unfold m_slices_Equal_int64_int64_A0 at hm
    refine Qn ?_
    refine Qc ?_
    refine Qa rfl rfl rfl rfl (Qb rfl) ?_
    refine Qe ?_
    refine Qo [4] [] rfl rfl rfl rfl (by rw [hF]; rfl) ?_
    refine QB ?_
    obtain rfl := Qw hm
    refine ⟨[_], [], ⟨rfl, trivial⟩, ?_, rfl, rfl, rfl, rfl⟩
    rfl
   ·unfold m_slices_Equal_int64_int64_A0 at hm
    obtain rfl := Qw hm
    refine ⟨[_], [], ⟨rfl, trivial⟩, ?_, rfl, rfl, rfl, rfl⟩
    rfl
  ·refine Qn ?_
   refine Qc ?_
   refine Qa rfl rfl rfl rfl (op_lss rfl rfl) ?_
   refine Qe ?_
   refine Qn ?_
   refine T_if_false rfl (decide_eq_false (by simp)) ?_
   refine Qo [] [] rfl rfl rfl rfl (by rw [hF]; rfl) ?_
   refine T_exit ?_
   exact hx0 (.inl ()) hm
  ·unfold m_slices_Equal_int64_int64_L0 at hm
   refine Qn ?_
   refine Qc ?_
   refine Qa rfl rfl rfl rfl (op_lss rfl rfl) ?_
   refine Qe ?_
   refine Qn ?_
   refine T_if_true rfl (decide_eq_true (Int.ofNat_lt.2 hlt0)) ?_
   refine QL ?_
   refine Qn ?_
   refine Xd ?_
   refine Qn ?_
   refine Qc ?_
   refine Qa rfl rfl rfl rfl (Qd rfl) ?_
   refine Qa rfl rfl rfl rfl (Qb rfl) ?_
   refine Qe ?_
   refine Qn ?_
   refine T_drawZ [] mix (by kernel_rfl) rfl ?_
   obtain ⟨x22, hx22, hm⟩ := Qv hm
   refine Ql 0 (by kernel_rfl) rfl rfl rfl rfl rfl (Qd rfl) ?_
   refine Ql 1 (by kernel_rfl) rfl rfl rfl rfl rfl (Qd rfl) ?_
   refine Ql 2 (by kernel_rfl) rfl rfl rfl rfl rfl (op_index_sl el29 rfl rfl rfl (get_map hxn0) rfl) ?_
   refine Ql 3 (by kernel_rfl) rfl rfl rfl rfl rfl (Qj ag2 rfl rfl) ?_
   refine Ql 4 (by kernel_rfl) rfl rfl rfl rfl rfl (Qd rfl) ?_
   refine Ql 5 (by kernel_rfl) rfl rfl rfl rfl rfl (Qd rfl) ?_
   refine Ql 6 (by kernel_rfl) rfl rfl rfl rfl rfl (Xi el29 rfl rfl hx22 rfl) ?_
   refine Ql 7 (by kernel_rfl) rfl rfl rfl rfl rfl (Qj ag2 rfl rfl) ?_
   refine Ql 8 (by kernel_rfl) rfl rfl rfl rfl rfl (op_neq rfl rfl) ?_
   refine Q8 (by kernel_rfl) ?_
   refine QI rfl (fun hq => ?_) (fun hq => ?_)
   ·replace hm := QO hq hm
    refine Qn ?_
    refine Qc ?_
    refine Qa rfl rfl rfl rfl (Qb rfl) ?_
    refine Qe ?_
    refine Qo [4] [] rfl rfl rfl rfl (by rw [hF]; rfl) ?_
    refine QB ?_
    obtain rfl := Qw hm
    have hn := Xv hc0
    exact hx0 (.inr false) hn
   ·replace hm := QM hq hm
    refine QL ?_
    refine Qc ?_
    refine Qa rfl rfl rfl rfl (op_addN rfl rfl (Nat.lt_of_lt_of_le hlt0 hlen7)) ?_
    refine Qa rfl rfl rfl rfl (Qd rfl) ?_
    refine Qe ?_
    refine Xw [0, 1, 12, 13] [] rfl rfl rfl rfl (by rw [hF]; rfl) ?_
    obtain rfl := Qw hm
    have hn := Q7 hc0
    exact hn _ rfl
theorem c_impl_Term_equal (p0 : Term) (p1 : Term) (out : Bool) (hm : m_impl_Term_equal p0 p1 = some out) : ACall Try.prog 127 [.agg [.int .i64 p0.Const, .sl 1 (List.map Qf p0.Coeffs)], .agg [.int .i64 p1.Const, .sl 1 (List.map Qf p1.Coeffs)]] [] (.bool out) [] := by
 refine ACall.intro Try.func127 rfl Try.ntmps127 rfl (fun F hF => ?_)
 unfold m_impl_Term_equal at hm
 refine Qn ?_
 refine Qc ?_
 refine TL_box 11 rfl rfl rfl rfl rfl rfl rfl ?_
 refine TL_box 12 rfl rfl rfl rfl rfl rfl rfl ?_
 refine Qa rfl rfl rfl rfl (Qb rfl) ?_
 refine Qe ?_
 refine Qn ?_
 refine Qc ?_
 refine Qa rfl rfl rfl rfl (Qi fa75_0 rfl rfl) ?_
 refine Qa rfl rfl rfl rfl (Qj ag2 rfl rfl) ?_
 refine Qa rfl rfl rfl rfl (Qi fa75_0 rfl rfl) ?_
 refine Qa rfl rfl rfl rfl (Qj ag2 rfl rfl) ?_
 refine Qa rfl rfl rfl rfl (Xq rfl rfl) ?_
 refine Qa rfl rfl rfl rfl (Qd rfl) ?_
 refine Qy 10 rfl rfl rfl (fun hq => ?_) (fun hq => ?_)
 ·replace hm := QO hq hm
  refine Qm rfl rfl ?_
  refine Qa rfl rfl rfl rfl (Qi fa75_1 rfl rfl) ?_
  refine Qm rfl rfl ?_
  refine Qa rfl rfl rfl rfl (Qj ag29 rfl rfl) ?_
  refine Qm rfl rfl ?_
  refine Qa rfl rfl rfl rfl (Qi fa75_1 rfl rfl) ?_
  refine Qm rfl rfl ?_
  refine Qa rfl rfl rfl rfl (Qj ag29 rfl rfl) ?_
  refine Qm rfl rfl ?_
  obtain ⟨r15, hr15, hm⟩ := Qv hm
  refine QG (c_slices_Equal_int64_int64 p0.Coeffs p1.Coeffs r15 hr15) Try.call140 rfl rfl rfl rfl rfl ?_
  refine Qa rfl rfl rfl rfl (Qp rfl rfl) ?_
  refine Qa rfl rfl rfl rfl (Qb rfl) ?_
  refine Qe ?_
  refine Qo [4] [] rfl rfl rfl rfl (by rw [hF]; rfl) ?_
  refine QB ?_
  obtain rfl := Qw hm
  refine ⟨[_], [], ⟨rfl, trivial⟩, ?_, rfl, rfl, rfl, rfl⟩
  rfl
 ·replace hm := QM hq hm
  refine Qh rfl rfl rfl rfl rfl rfl rfl ?_
  refine Qh rfl rfl rfl rfl rfl rfl rfl ?_
  refine Qh rfl rfl rfl rfl rfl rfl rfl ?_
  refine Qh rfl rfl rfl rfl rfl rfl rfl ?_
  refine Qh rfl rfl rfl rfl rfl rfl rfl ?_
  refine Qa rfl rfl rfl rfl (Qk rfl rfl) ?_
  refine Qa rfl rfl rfl rfl (Qb rfl) ?_
  refine Qe ?_
  refine Qo [4] [] rfl rfl rfl rfl (by rw [hF]; rfl) ?_
  refine QB ?_
  obtain rfl := Qw hm
  refine ⟨[_], [], ⟨rfl, trivial⟩, ?_, rfl, rfl, rfl, rfl⟩
  rfl
theorem c_slices_EqualFunc_impl_Term_impl_Term_impl_Term_impl_Term_fequal (p0 : List Term) (p1 : List Term) (out : Bool) (hm : QT p0 p1 = some out) : ACall Try.prog 141 [.sl 2 (List.map Qq p0), .sl 2 (List.map Qq p1), .fn (.func 127) [] []] [] (.bool out) [] := by
 refine ACall.intro Try.func141 rfl Try.ntmps141 rfl (fun F hF => ?_)
 unfold QT at hm
 refine Qn ?_
 refine Qc ?_
 refine Qa rfl rfl rfl rfl (Qb rfl) ?_
 refine Qe ?_
 refine Qn ?_
 refine Qn ?_
 refine Qc ?_
 refine Qa rfl rfl rfl rfl (Qd rfl) ?_
 refine Qa rfl rfl rfl rfl (Xm Try.underlying24 rfl (List.length_map _)) ?_
 refine Xy (fun _ _ _ hr => RelP.slLen (i := 10) rfl hr) (fun hlen11 => ?_)
 rw [List.length_map] at hlen11
 refine Qa rfl rfl rfl rfl (Qd rfl) ?_
 refine Qa rfl rfl rfl rfl (Xm Try.underlying24 rfl (List.length_map _)) ?_
 refine Xy (fun _ _ _ hr => RelP.slLen (i := 12) rfl hr) (fun hlen13 => ?_)
 rw [List.length_map] at hlen13
 refine Qa rfl rfl rfl rfl (op_neq rfl rfl) ?_
 refine Qe ?_
 refine QI rfl (fun hq => ?_) (fun hq => ?_)
 ·replace hm := QO hq hm
  refine Qn ?_
  refine Qc ?_
  refine Qa rfl rfl rfl rfl (Qb rfl) ?_
  refine Qe ?_
  refine Qo [6] [] rfl rfl rfl rfl (by rw [hF]; rfl) ?_
  refine QB ?_
  obtain rfl := Qw hm
  refine ⟨[_], [], ⟨rfl, trivial⟩, ?_, rfl, rfl, rfl, rfl⟩
  rfl
 ·replace hm := QM hq hm
  refine QL ?_
  refine Qn ?_
  refine Qn ?_
  refine Qc ?_
  refine Qa rfl rfl rfl rfl (Qd rfl) ?_
  refine Qa rfl rfl rfl rfl (Xm Try.underlying24 rfl (List.length_map _)) ?_
  refine Qa rfl rfl rfl rfl (Qd rfl) ?_
  refine Qe ?_
  refine Xd ?_
  refine Qo [1, 2, 15, 16, 17] [] rfl rfl rfl rfl (by rw [hF]; rfl) ?_
  refine T_loop ?_
  obtain ⟨u0, hl0, hm⟩ := Qv hm
  refine TR_forL2 p0 (QQ p1) (fun (s0 : Unit) => (.inl ())) (fun n0 (s0 : Unit) => ⟨[(1, .sl 2 (List.map Qq p1)), (2, .fn (.func 127) [] []), (15, .sl 2 (List.map Qq p0)), (16, .int .i64 (p0.length : Int)), (17, .int .i64 (n0 : Int))], []⟩) (fun u0 => match u0 with | .inl u0 => .exit 0 | .inr u0 => .ret) (fun u0 => match u0 with | .inl u0 => ⟨[], []⟩ | .inr u0 => ⟨[(6, .bool u0)], []⟩) (fun u0 => QR u0 = some out) hl0 hm (fun u0 hm => ?_) (fun hx0 s0 hm => ?_) (fun hx0 n0 x0 s0 c0 hxn0 hlt0 hm hc0 => ?_)
  ·rcases u0 with u0 | u0
   ·unfold QR at hm
    refine Qn ?_
    refine Qc ?_
    refine Qa rfl rfl rfl rfl (Qb rfl) ?_
    refine Qe ?_
    refine Qo [6] [] rfl rfl rfl rfl (by rw [hF]; rfl) ?_
    refine QB ?_
    obtain rfl := Qw hm
    refine ⟨[_], [], ⟨rfl, trivial⟩, ?_, rfl, rfl, rfl, rfl⟩
    rfl
   ·unfold QR at hm
    obtain rfl := Qw hm
    refine ⟨[_], [], ⟨rfl, trivial⟩, ?_, rfl, rfl, rfl, rfl⟩
    rfl
  ·refine Qn ?_
   refine Qc ?_
   refine Qa rfl rfl rfl rfl (op_lss rfl rfl) ?_
   refine Qe ?_
   refine Qn ?_
   refine T_if_false rfl (decide_eq_false (by simp)) ?_
   refine Qo [] [] rfl rfl rfl rfl (by rw [hF]; rfl) ?_
   refine T_exit ?_
   exact hx0 (.inl ()) hm
  ·unfold QQ at hm
   refine Qn ?_
   refine Qc ?_
   refine Qa rfl rfl rfl rfl (op_lss rfl rfl) ?_
   refine Qe ?_
   refine Qn ?_
   refine T_if_true rfl (decide_eq_true (Int.ofNat_lt.2 hlt0)) ?_
   refine QL ?_
   refine Qn ?_
   refine Xd ?_
   refine Qn ?_
   refine Qc ?_
   refine Qa rfl rfl rfl rfl (Qd rfl) ?_
   refine Qa rfl rfl rfl rfl (op_index_sl el24 rfl rfl rfl (get_map hxn0) rfl) ?_
   refine Qa rfl rfl rfl rfl (Qt ag75 sz75 rfl rfl rfl) ?_
   refine Xk 13 z75 rfl rfl rfl rfl rfl rfl rfl ?_
   refine Qa rfl rfl rfl rfl (Qb rfl) ?_
   refine Qr sz75 rfl rfl rfl rfl rfl rfl rfl rfl rfl ?_
   refine Qe ?_
   refine Qn ?_
   refine Qc ?_
   refine Qa rfl rfl rfl rfl (Qd rfl) ?_
   refine Qa rfl rfl rfl rfl (Qd rfl) ?_
   obtain ⟨x24, hx24, hm⟩ := Qv hm
   refine Qa rfl rfl rfl rfl (Xi el24 rfl rfl hx24 rfl) ?_
   refine Qa rfl rfl rfl rfl (Qt ag75 sz75 rfl rfl rfl) ?_
   refine Xk 14 z75 rfl rfl rfl rfl rfl rfl rfl ?_
   refine Qr sz75 rfl rfl rfl rfl rfl rfl rfl rfl rfl ?_
   refine Qe ?_
   refine Qn ?_
   refine Qc ?_
   refine Qa rfl rfl rfl rfl (Qd rfl) ?_
   refine Qa rfl rfl rfl rfl (Qt ag75 sz75 rfl rfl rfl) ?_
   refine Qa rfl rfl rfl rfl (Qt ag75 sz75 rfl rfl rfl) ?_
   obtain ⟨r29, hr29, hm⟩ := Qv hm
   refine TL_callV rfl (c_impl_Term_equal x0 x24 r29 hr29) Try.call127 rfl rfl rfl rfl rfl ?_
   refine Qa rfl rfl rfl rfl (op_not rfl) ?_
   refine Qe ?_
   refine QI rfl (fun hq => ?_) (fun hq => ?_)
   ·replace hm := QO hq hm
    refine Qn ?_
    refine Qc ?_
    refine Qa rfl rfl rfl rfl (Qb rfl) ?_
    refine Qe ?_
    refine Qo [6] [] rfl rfl rfl rfl (by rw [hF]; rfl) ?_
    refine QB ?_
    obtain rfl := Qw hm
    have hn := Xv hc0
    exact hx0 (.inr false) hn
   ·replace hm := QM hq hm
    refine QL ?_
    refine Qc ?_
    refine Qa rfl rfl rfl rfl (op_addN rfl rfl (Nat.lt_of_lt_of_le hlt0 hlen11)) ?_
    refine Qa rfl rfl rfl rfl (Qd rfl) ?_
    refine Qe ?_
    refine Xw [1, 2, 15, 16, 17] [] rfl rfl rfl rfl (by rw [hF]; rfl) ?_
    obtain rfl := Qw hm
    have hn := Q7 hc0
    exact hn _ rfl
theorem c_impl_sameTerms (p0 : List Term) (p1 : List Term) (out : Bool) (hm : m_impl_sameTerms p0 p1 = some out) : ACall Try.prog 128 [.sl 2 (List.map Qq p0), .sl 2 (List.map Qq p1)] [] (.bool out) [] := by
 refine ACall.intro Try.func128 rfl Try.ntmps128 rfl (fun F hF => ?_)
 unfold m_impl_sameTerms at hm
 refine Qn ?_
 refine Qc ?_
 refine Qa rfl rfl rfl rfl (Qb rfl) ?_
 refine Qe ?_
 refine Qn ?_
 refine Qc ?_
 refine Qa rfl rfl rfl rfl (Qd rfl) ?_
 refine Qa rfl rfl rfl rfl (Qd rfl) ?_
 obtain ⟨r7, hr7, hm⟩ := Qv hm
 refine QG (c_slices_EqualFunc_impl_Term_impl_Term_impl_Term_impl_Term_fequal p0 p1 r7 hr7) Try.call141 rfl rfl rfl rfl rfl ?_
 refine Qa rfl rfl rfl rfl (Qb rfl) ?_
 refine Qe ?_
 refine Qo [4] [] rfl rfl rfl rfl (by rw [hF]; rfl) ?_
 refine QB ?_
 obtain rfl := Qw hm
 refine ⟨[_], [], ⟨rfl, trivial⟩, ?_, rfl, rfl, rfl, rfl⟩
 rfl
theorem c_slices_EqualFunc_impl_tree_impl_tree_impl_tree_impl_tree_fsameTree_r (rec_impl_sameTree : Ptree → Ptree → Option Bool) (hrec_impl_sameTree : ∀ (p0 : Ptree) (p1 : Ptree) (out : Bool), rec_impl_sameTree p0 p1 = some out → ACall Try.prog 104 [Qg p0, Qg p1] [] (.bool out) []) (p0 : List Ptree) (p1 : List Ptree) (out : Bool) (hm : QE rec_impl_sameTree p0 p1 = some out) : ACall Try.prog 129 [.sl 1 (List.map Qg p0), .sl 1 (List.map Qg p1), .fn (.func 104) [] []] [] (.bool out) [] := by
 refine ACall.intro Try.func129 rfl Try.ntmps129 rfl (fun F hF => ?_)
 unfold QE at hm
 refine Qn ?_
 refine Qc ?_
 refine Qa rfl rfl rfl rfl (Qb rfl) ?_
 refine Qe ?_
 refine Qn ?_
 refine Qn ?_
 refine Qc ?_
 refine Qa rfl rfl rfl rfl (Qd rfl) ?_
 refine Qa rfl rfl rfl rfl (Xm Try.underlying129 rfl (List.length_map _)) ?_
 refine Xy (fun _ _ _ hr => RelP.slLen (i := 10) rfl hr) (fun hlen11 => ?_)
 rw [List.length_map] at hlen11
 refine Qa rfl rfl rfl rfl (Qd rfl) ?_
 refine Qa rfl rfl rfl rfl (Xm Try.underlying129 rfl (List.length_map _)) ?_
 refine Xy (fun _ _ _ hr => RelP.slLen (i := 12) rfl hr) (fun hlen13 => ?_)
 rw [List.length_map] at hlen13
 refine Qa rfl rfl rfl rfl (op_neq rfl rfl) ?_
 refine Qe ?_
 refine QI rfl (fun hq => ?_) (fun hq => ?_)
 ·replace hm := QO hq hm
  refine Qn ?_
  refine Qc ?_
  refine Qa rfl rfl rfl rfl (Qb rfl) ?_
  refine Qe ?_
  refine Qo [6] [] rfl rfl rfl rfl (by rw [hF]; rfl) ?_
  refine QB ?_
  obtain rfl := Qw hm
  refine ⟨[_], [], ⟨rfl, trivial⟩, ?_, rfl, rfl, rfl, rfl⟩
  rfl
 ·replace hm := QM hq hm
  refine QL ?_
  refine Qn ?_
  refine Qn ?_
  refine Qc ?_
  refine Qa rfl rfl rfl rfl (Qd rfl) ?_
  refine Qa rfl rfl rfl rfl (Xm Try.underlying129 rfl (List.length_map _)) ?_
  refine Qa rfl rfl rfl rfl (Qd rfl) ?_
  refine Qe ?_
  refine Xd ?_
  refine Qo [1, 2, 15, 16, 17] [] rfl rfl rfl rfl (by rw [hF]; rfl) ?_
  refine T_loop ?_
  obtain ⟨u0, hl0, hm⟩ := Qv hm
  refine TR_forL2 p0 (QJ rec_impl_sameTree p1) (fun (s0 : Unit) => (.inl ())) (fun n0 (s0 : Unit) => ⟨[(1, .sl 1 (List.map Qg p1)), (2, .fn (.func 104) [] []), (15, .sl 1 (List.map Qg p0)), (16, .int .i64 (p0.length : Int)), (17, .int .i64 (n0 : Int))], []⟩) (fun u0 => match u0 with | .inl u0 => .exit 0 | .inr u0 => .ret) (fun u0 => match u0 with | .inl u0 => ⟨[], []⟩ | .inr u0 => ⟨[(6, .bool u0)], []⟩) (fun u0 => QK u0 = some out) hl0 hm (fun u0 hm => ?_) (fun hx0 s0 hm => ?_) (fun hx0 n0 x0 s0 c0 hxn0 hlt0 hm hc0 => ?_)
  ·rcases u0 with u0 | u0
   ·unfold QK at hm
    refine Qn ?_
    refine Qc ?_
    refine Qa rfl rfl rfl rfl (Qb rfl) ?_
    refine Qe ?_
    refine Qo [6] [] rfl rfl rfl rfl (by rw [hF]; rfl) ?_
    refine QB ?_
    obtain rfl := Qw hm
    refine ⟨[_], [], ⟨rfl, trivial⟩, ?_, rfl, rfl, rfl, rfl⟩
    rfl
   ·unfold QK at hm
    obtain rfl := Qw hm
    refine ⟨[_], [], ⟨rfl, trivial⟩, ?_, rfl, rfl, rfl, rfl⟩
    rfl
  ·refine Qn ?_
   refine Qc ?_
   refine Qa rfl rfl rfl rfl (op_lss rfl rfl) ?_
   refine Qe ?_
   refine Qn ?_
   refine T_if_false rfl (decide_eq_false (by simp)) ?_
   refine Qo [] [] rfl rfl rfl rfl (by rw [hF]; rfl) ?_
   refine T_exit ?_
   exact hx0 (.inl ()) hm
  ·unfold QJ at hm
   refine Qn ?_
   refine Qc ?_
   refine Qa rfl rfl rfl rfl (op_lss rfl rfl) ?_
   refine Qe ?_
   refine Qn ?_
   refine T_if_true rfl (decide_eq_true (Int.ofNat_lt.2 hlt0)) ?_
   refine QL ?_
   refine Qn ?_
   refine Xd ?_
   refine Qn ?_
   refine Qc ?_
   refine Qa rfl rfl rfl rfl (Qd rfl) ?_
   refine Qa rfl rfl rfl rfl (op_index_sl el129 rfl rfl rfl (get_map hxn0) rfl) ?_
   refine Qa rfl rfl rfl rfl (Qj ag88 rfl rfl) ?_
   refine Qa rfl rfl rfl rfl (Qb rfl) ?_
   refine Qa rfl rfl rfl rfl (Qb rfl) ?_
   refine Qe ?_
   refine Qn ?_
   refine Qc ?_
   refine Qa rfl rfl rfl rfl (Qd rfl) ?_
   refine Qa rfl rfl rfl rfl (Qd rfl) ?_
   obtain ⟨x24, hx24, hm⟩ := Qv hm
   refine Qa rfl rfl rfl rfl (Xi el129 rfl rfl hx24 rfl) ?_
   refine Qa rfl rfl rfl rfl (Qj ag88 rfl rfl) ?_
   refine Qa rfl rfl rfl rfl (Qb rfl) ?_
   refine Qe ?_
   refine Qn ?_
   refine Qc ?_
   refine Qa rfl rfl rfl rfl (Qd rfl) ?_
   refine Qa rfl rfl rfl rfl (Qd rfl) ?_
   refine Qa rfl rfl rfl rfl (Qd rfl) ?_
   obtain ⟨r29, hr29, hm⟩ := Qv hm
   refine TL_callV rfl (hrec_impl_sameTree x0 x24 r29 hr29) Try.call104 rfl rfl rfl rfl rfl ?_
   refine Qa rfl rfl rfl rfl (op_not rfl) ?_
   refine Qe ?_
   refine QI rfl (fun hq => ?_) (fun hq => ?_)
   ·replace hm := QO hq hm
    refine Qn ?_
    refine Qc ?_
    refine Qa rfl rfl rfl rfl (Qb rfl) ?_
    refine Qe ?_
    refine Qo [6] [] rfl rfl rfl rfl (by rw [hF]; rfl) ?_
    refine QB ?_
    obtain rfl := Qw hm
    have hn := Xv hc0
    exact hx0 (.inr false) hn
   ·replace hm := QM hq hm
    refine QL ?_
    refine Qc ?_
    refine Qa rfl rfl rfl rfl (op_addN rfl rfl (Nat.lt_of_lt_of_le hlt0 hlen11)) ?_
    refine Qa rfl rfl rfl rfl (Qd rfl) ?_
    refine Qe ?_
    refine Xw [1, 2, 15, 16, 17] [] rfl rfl rfl rfl (by rw [hF]; rfl) ?_
    obtain rfl := Qw hm
    have hn := Q7 hc0
    exact hn _ rfl
theorem c_impl_sameTree_F (rec_impl_sameTree : Ptree → Ptree → Option Bool) (hrec_impl_sameTree : ∀ (p0 : Ptree) (p1 : Ptree) (out : Bool), rec_impl_sameTree p0 p1 = some out → ACall Try.prog 104 [Qg p0, Qg p1] [] (.bool out) []) (p0 : Ptree) (p1 : Ptree) (out : Bool) (hm : m_impl_sameTree_F rec_impl_sameTree p0 p1 = some out) : ACall Try.prog 104 [Qg p0, Qg p1] [] (.bool out) [] := by
 refine ACall.intro Try.func104 rfl Try.ntmps104 rfl (fun F hF => ?_)
 unfold m_impl_sameTree_F at hm
 refine Qn ?_
 refine Qc ?_
 refine Qa rfl rfl rfl rfl (Qb rfl) ?_
 refine Qe ?_
 refine T_join (fun (j0 : Int × Int × Int × Int × (List Int) × Int × (List Int) × (List Term) × Int × Int × Int × Int × (List Int) × Int × (List Int) × (List Term)) => ⟨[(0, Qg p0), (1, Qg p1), (5, .ptr 731 0 0), (6, .ptr 811 0 0)], [(731, .box [.int .i64 j0.1, .int .i64 j0.2.1, .int .i64 j0.2.2.1, .int .i64 j0.2.2.2.1, .sl 1 (List.map Qf j0.2.2.2.2.1), .int .i64 j0.2.2.2.2.2.1, .sl 1 (List.map Qf j0.2.2.2.2.2.2.1), .sl 2 (List.map Qq j0.2.2.2.2.2.2.2.1)]), (811, .box [.int .i64 j0.2.2.2.2.2.2.2.2.1, .int .i64 j0.2.2.2.2.2.2.2.2.2.1, .int .i64 j0.2.2.2.2.2.2.2.2.2.2.1, .int .i64 j0.2.2.2.2.2.2.2.2.2.2.2.1, .sl 1 (List.map Qf j0.2.2.2.2.2.2.2.2.2.2.2.2.1), .int .i64 j0.2.2.2.2.2.2.2.2.2.2.2.2.2.1, .sl 1 (List.map Qf j0.2.2.2.2.2.2.2.2.2.2.2.2.2.2.1), .sl 2 (List.map Qq j0.2.2.2.2.2.2.2.2.2.2.2.2.2.2.2)])]⟩) (fun j0 => m_impl_sameTree_F_J0 rec_impl_sameTree p0 p1 j0 = some out) (fun j0 hm => ?_) (fun hj0 => ?_)
 ·unfold m_impl_sameTree_F_J0 at hm
  refine Qn ?_
  refine T_drawZ [] mix (by kernel_rfl) rfl ?_
  refine Ql 0 (by kernel_rfl) rfl rfl rfl rfl rfl (Qi fa77_0 rfl rfl) ?_
  refine Ql 1 (by kernel_rfl) rfl rfl rfl rfl rfl (Qj ag2 rfl rfl) ?_
  refine Ql 2 (by kernel_rfl) rfl rfl rfl rfl rfl (Qi fa77_0 rfl rfl) ?_
  refine Ql 3 (by kernel_rfl) rfl rfl rfl rfl rfl (Qj ag2 rfl rfl) ?_
  refine Ql 4 (by kernel_rfl) rfl rfl rfl rfl rfl (Xq rfl rfl) ?_
  refine Ql 5 (by kernel_rfl) rfl rfl rfl rfl rfl (Qd rfl) ?_
  refine TZ_split 20 rfl rfl rfl (fun hq => ?_) (fun hq => ?_)
  ·replace hm := QO hq hm
   refine Xg 6 (by kernel_rfl) rfl rfl rfl rfl rfl rfl rfl (Qi fa77_1 rfl rfl) ?_
   refine Xg 7 (by kernel_rfl) rfl rfl rfl rfl rfl rfl rfl (Qj ag2 rfl rfl) ?_
   refine Xg 8 (by kernel_rfl) rfl rfl rfl rfl rfl rfl rfl (Qi fa77_1 rfl rfl) ?_
   refine Xg 9 (by kernel_rfl) rfl rfl rfl rfl rfl rfl rfl (Qj ag2 rfl rfl) ?_
   refine Xg 10 (by kernel_rfl) rfl rfl rfl rfl rfl rfl rfl (Xq rfl rfl) ?_
   refine Ql 11 (by kernel_rfl) rfl rfl rfl rfl rfl (Qp rfl rfl) ?_
   refine Ql 12 (by kernel_rfl) rfl rfl rfl rfl rfl (Qd rfl) ?_
   refine TZ_split 27 rfl rfl rfl (fun hq => ?_) (fun hq => ?_)
   ·replace hm := QO hq hm
    refine Xg 13 (by kernel_rfl) rfl rfl rfl rfl rfl rfl rfl (Qi fa77_2 rfl rfl) ?_
    refine Xg 14 (by kernel_rfl) rfl rfl rfl rfl rfl rfl rfl (Qj ag2 rfl rfl) ?_
    refine Xg 15 (by kernel_rfl) rfl rfl rfl rfl rfl rfl rfl (Qi fa77_2 rfl rfl) ?_
    refine Xg 16 (by kernel_rfl) rfl rfl rfl rfl rfl rfl rfl (Qj ag2 rfl rfl) ?_
    refine Xg 17 (by kernel_rfl) rfl rfl rfl rfl rfl rfl rfl (Xq rfl rfl) ?_
    refine Ql 18 (by kernel_rfl) rfl rfl rfl rfl rfl (Qp rfl rfl) ?_
    refine Ql 19 (by kernel_rfl) rfl rfl rfl rfl rfl (Qd rfl) ?_
    refine TZ_split 34 rfl rfl rfl (fun hq => ?_) (fun hq => ?_)
    ·replace hm := QO hq hm
     obtain ⟨r39, hr39, hm⟩ := Qv hm
     refine Xg 20 (by kernel_rfl) rfl rfl rfl rfl rfl rfl rfl (Qi fa77_3 rfl rfl) ?_
     refine Xg 21 (by kernel_rfl) rfl rfl rfl rfl rfl rfl rfl (Qt ag75 sz75 rfl rfl rfl) ?_
     refine Xg 22 (by kernel_rfl) rfl rfl rfl rfl rfl rfl rfl (Qi fa77_3 rfl rfl) ?_
     refine Xg 23 (by kernel_rfl) rfl rfl rfl rfl rfl rfl rfl (Qt ag75 sz75 rfl rfl rfl) ?_
     refine QF 24 (by kernel_rfl) rfl ?_
     refine Qm rfl rfl ?_
     refine QG (c_impl_Term_equal (Term.mk j0.2.2.2.1 j0.2.2.2.2.1) (Term.mk j0.2.2.2.2.2.2.2.2.2.2.2.1 j0.2.2.2.2.2.2.2.2.2.2.2.2.1) r39 hr39) Try.call127 rfl rfl rfl rfl rfl ?_
     refine Qe ?_
     refine Ql 25 (by kernel_rfl) rfl rfl rfl rfl rfl (Qp rfl rfl) ?_
     refine Ql 26 (by kernel_rfl) rfl rfl rfl rfl rfl (Qd rfl) ?_
     refine TZ_split 41 rfl rfl rfl (fun hq => ?_) (fun hq => ?_)
     ·replace hm := QO hq hm
      obtain ⟨r46, hr46, hm⟩ := Qv hm
      refine Xg 27 (by kernel_rfl) rfl rfl rfl rfl rfl rfl rfl (Qi fa77_4 rfl rfl) ?_
      refine Xg 28 (by kernel_rfl) rfl rfl rfl rfl rfl rfl rfl (Qt ag75 sz75 rfl rfl rfl) ?_
      refine Xg 29 (by kernel_rfl) rfl rfl rfl rfl rfl rfl rfl (Qi fa77_4 rfl rfl) ?_
      refine Xg 30 (by kernel_rfl) rfl rfl rfl rfl rfl rfl rfl (Qt ag75 sz75 rfl rfl rfl) ?_
      refine QF 31 (by kernel_rfl) rfl ?_
      refine Qm rfl rfl ?_
      refine QG (c_impl_Term_equal (Term.mk j0.2.2.2.2.2.1 j0.2.2.2.2.2.2.1) (Term.mk j0.2.2.2.2.2.2.2.2.2.2.2.2.2.1 j0.2.2.2.2.2.2.2.2.2.2.2.2.2.2.1) r46 hr46) Try.call127 rfl rfl rfl rfl rfl ?_
      refine Qe ?_
      refine Ql 32 (by kernel_rfl) rfl rfl rfl rfl rfl (Qp rfl rfl) ?_
      refine Ql 33 (by kernel_rfl) rfl rfl rfl rfl rfl (Qd rfl) ?_
      refine TZ_split 48 rfl rfl rfl (fun hq => ?_) (fun hq => ?_)
      ·replace hm := QO hq hm
       obtain ⟨r53, hr53, hm⟩ := Qv hm
       refine Xg 34 (by kernel_rfl) rfl rfl rfl rfl rfl rfl rfl (Qi fa77_5 rfl rfl) ?_
       refine Xg 35 (by kernel_rfl) rfl rfl rfl rfl rfl rfl rfl (Qj ag24 rfl rfl) ?_
       refine Xg 36 (by kernel_rfl) rfl rfl rfl rfl rfl rfl rfl (Qi fa77_5 rfl rfl) ?_
       refine Xg 37 (by kernel_rfl) rfl rfl rfl rfl rfl rfl rfl (Qj ag24 rfl rfl) ?_
       refine QF 38 (by kernel_rfl) rfl ?_
       refine Qm rfl rfl ?_
       refine QG (c_impl_sameTerms j0.2.2.2.2.2.2.2.1 j0.2.2.2.2.2.2.2.2.2.2.2.2.2.2.2 r53 hr53) Try.call128 rfl rfl rfl rfl rfl ?_
       refine Qe ?_
       refine Ql 39 (by kernel_rfl) rfl rfl rfl rfl rfl (Qp rfl rfl) ?_
       refine Ql 40 (by kernel_rfl) rfl rfl rfl rfl rfl (Qd rfl) ?_
       refine TZ_split 55 rfl rfl rfl (fun hq => ?_) (fun hq => ?_)
       ·replace hm := QO hq hm
        obtain ⟨o56, ho56, hm⟩ := Qv hm
        obtain ⟨o60, ho60, hm⟩ := Qv hm
        obtain ⟨r64, hr64, hm⟩ := Qv hm
        refine Xg 41 (by kernel_rfl) rfl rfl rfl rfl rfl rfl rfl (Qd rfl) ?_
        refine TZ_trAt 56 (x' := .cp [.int .i64 o56.Stmt.Kind, .int .i64 o56.Stmt.Var, .int .i64 o56.Stmt.Event, .int .i64 o56.Stmt.Sum.Const, .sl 1 (List.map Qf o56.Stmt.Sum.Coeffs), .int .i64 o56.Stmt.Index.Const, .sl 1 (List.map Qf o56.Stmt.Index.Coeffs), .sl 2 (List.map Qq o56.Stmt.Facts), .int .i64 o56.at_, .sl 1 (List.map Qg o56.kids)]) rfl (Xh (QV ho56)) rfl ?_
        refine Xg 42 (by kernel_rfl) rfl rfl rfl rfl rfl rfl rfl (Qs rfl rfl) ?_
        refine Xg 43 (by kernel_rfl) rfl rfl rfl rfl rfl rfl rfl (Qi fa132_2 rfl rfl) ?_
        refine Xg 44 (by kernel_rfl) rfl rfl rfl rfl rfl rfl rfl (Qj ag129 rfl rfl) ?_
        refine Xg 45 (by kernel_rfl) rfl rfl rfl rfl rfl rfl rfl (Qd rfl) ?_
        refine TZ_trAt 60 (x' := .cp [.int .i64 o60.Stmt.Kind, .int .i64 o60.Stmt.Var, .int .i64 o60.Stmt.Event, .int .i64 o60.Stmt.Sum.Const, .sl 1 (List.map Qf o60.Stmt.Sum.Coeffs), .int .i64 o60.Stmt.Index.Const, .sl 1 (List.map Qf o60.Stmt.Index.Coeffs), .sl 2 (List.map Qq o60.Stmt.Facts), .int .i64 o60.at_, .sl 1 (List.map Qg o60.kids)]) rfl (Xh (QV ho60)) rfl ?_
        refine Xg 46 (by kernel_rfl) rfl rfl rfl rfl rfl rfl rfl (Qs rfl rfl) ?_
        refine Xg 47 (by kernel_rfl) rfl rfl rfl rfl rfl rfl rfl (Qi fa132_2 rfl rfl) ?_
        refine Xg 48 (by kernel_rfl) rfl rfl rfl rfl rfl rfl rfl (Qj ag129 rfl rfl) ?_
        refine QF 49 (by kernel_rfl) rfl ?_
        refine Qm rfl rfl ?_
        refine QG (c_slices_EqualFunc_impl_tree_impl_tree_impl_tree_impl_tree_fsameTree_r rec_impl_sameTree hrec_impl_sameTree o56.kids o60.kids r64 hr64) Try.call129 rfl rfl rfl rfl rfl ?_
        refine Qe ?_
        refine Ql 50 (by kernel_rfl) rfl rfl rfl rfl rfl (Qp rfl rfl) ?_
        refine Ql 51 (by kernel_rfl) rfl rfl rfl rfl rfl (Qb rfl) ?_
        refine Q8 (by kernel_rfl) ?_
        refine Qo [4] [] rfl rfl rfl rfl (by rw [hF]; rfl) ?_
        refine QB ?_
        obtain rfl := Qw hm
        refine ⟨[_], [], ⟨rfl, trivial⟩, ?_, rfl, rfl, rfl, rfl⟩
        rfl
       ·replace hm := QM hq hm
        refine Qz 41 (by kernel_rfl) rfl rfl rfl rfl rfl rfl rfl rfl ?_
        refine Qz 42 (by kernel_rfl) rfl rfl rfl rfl rfl rfl rfl rfl ?_
        refine Qz 43 (by kernel_rfl) rfl rfl rfl rfl rfl rfl rfl rfl ?_
        refine Qz 44 (by kernel_rfl) rfl rfl rfl rfl rfl rfl rfl rfl ?_
        refine Qz 45 (by kernel_rfl) rfl rfl rfl rfl rfl rfl rfl rfl ?_
        refine Qz 46 (by kernel_rfl) rfl rfl rfl rfl rfl rfl rfl rfl ?_
        refine Qz 47 (by kernel_rfl) rfl rfl rfl rfl rfl rfl rfl rfl ?_
        refine Qz 48 (by kernel_rfl) rfl rfl rfl rfl rfl rfl rfl rfl ?_
        refine QF 49 (by kernel_rfl) rfl ?_
        refine Qh rfl rfl rfl rfl rfl rfl rfl ?_
        refine Qe ?_
        refine Ql 50 (by kernel_rfl) rfl rfl rfl rfl rfl (Qk rfl rfl) ?_
        refine Ql 51 (by kernel_rfl) rfl rfl rfl rfl rfl (Qb rfl) ?_
        refine Q8 (by kernel_rfl) ?_
        refine Qo [4] [] rfl rfl rfl rfl (by rw [hF]; rfl) ?_
        refine QB ?_
        obtain rfl := Qw hm
        refine ⟨[_], [], ⟨rfl, trivial⟩, ?_, rfl, rfl, rfl, rfl⟩
        rfl
      ·replace hm := QM hq hm
       refine Qz 34 (by kernel_rfl) rfl rfl rfl rfl rfl rfl rfl rfl ?_
       refine Qz 35 (by kernel_rfl) rfl rfl rfl rfl rfl rfl rfl rfl ?_
       refine Qz 36 (by kernel_rfl) rfl rfl rfl rfl rfl rfl rfl rfl ?_
       refine Qz 37 (by kernel_rfl) rfl rfl rfl rfl rfl rfl rfl rfl ?_
       refine QF 38 (by kernel_rfl) rfl ?_
       refine Qh rfl rfl rfl rfl rfl rfl rfl ?_
       refine Qe ?_
       refine Ql 39 (by kernel_rfl) rfl rfl rfl rfl rfl (Qk rfl rfl) ?_
       refine Ql 40 (by kernel_rfl) rfl rfl rfl rfl rfl (Qd rfl) ?_
       refine Qz 41 (by kernel_rfl) rfl rfl rfl rfl rfl rfl rfl rfl ?_
       refine Qz 42 (by kernel_rfl) rfl rfl rfl rfl rfl rfl rfl rfl ?_
       refine Qz 43 (by kernel_rfl) rfl rfl rfl rfl rfl rfl rfl rfl ?_
       refine Qz 44 (by kernel_rfl) rfl rfl rfl rfl rfl rfl rfl rfl ?_
       refine Qz 45 (by kernel_rfl) rfl rfl rfl rfl rfl rfl rfl rfl ?_
       refine Qz 46 (by kernel_rfl) rfl rfl rfl rfl rfl rfl rfl rfl ?_
       refine Qz 47 (by kernel_rfl) rfl rfl rfl rfl rfl rfl rfl rfl ?_
       refine Qz 48 (by kernel_rfl) rfl rfl rfl rfl rfl rfl rfl rfl ?_
       refine QF 49 (by kernel_rfl) rfl ?_
       refine Qh rfl rfl rfl rfl rfl rfl rfl ?_
       refine Qe ?_
       refine Ql 50 (by kernel_rfl) rfl rfl rfl rfl rfl (Qk rfl rfl) ?_
       refine Ql 51 (by kernel_rfl) rfl rfl rfl rfl rfl (Qb rfl) ?_
       refine Q8 (by kernel_rfl) ?_
       refine Qo [4] [] rfl rfl rfl rfl (by rw [hF]; rfl) ?_
       refine QB ?_
       obtain rfl := Qw hm
       refine ⟨[_], [], ⟨rfl, trivial⟩, ?_, rfl, rfl, rfl, rfl⟩
       rfl
     ·replace hm := QM hq hm
      refine Qz 27 (by kernel_rfl) rfl rfl rfl rfl rfl rfl rfl rfl ?_
      refine Qz 28 (by kernel_rfl) rfl rfl rfl rfl rfl rfl rfl rfl ?_
      refine Qz 29 (by kernel_rfl) rfl rfl rfl rfl rfl rfl rfl rfl ?_
      refine Qz 30 (by kernel_rfl) rfl rfl rfl rfl rfl rfl rfl rfl ?_
      refine QF 31 (by kernel_rfl) rfl ?_
      refine Qh rfl rfl rfl rfl rfl rfl rfl ?_
      refine Qe ?_
      refine Ql 32 (by kernel_rfl) rfl rfl rfl rfl rfl (Qk rfl rfl) ?_
      refine Ql 33 (by kernel_rfl) rfl rfl rfl rfl rfl (Qd rfl) ?_
      refine Qz 34 (by kernel_rfl) rfl rfl rfl rfl rfl rfl rfl rfl ?_
      refine Qz 35 (by kernel_rfl) rfl rfl rfl rfl rfl rfl rfl rfl ?_
      refine Qz 36 (by kernel_rfl) rfl rfl rfl rfl rfl rfl rfl rfl ?_
      refine Qz 37 (by kernel_rfl) rfl rfl rfl rfl rfl rfl rfl rfl ?_
      refine QF 38 (by kernel_rfl) rfl ?_
      refine Qh rfl rfl rfl rfl rfl rfl rfl ?_
      refine Qe ?_
      refine Ql 39 (by kernel_rfl) rfl rfl rfl rfl rfl (Qk rfl rfl) ?_
      refine Ql 40 (by kernel_rfl) rfl rfl rfl rfl rfl (Qd rfl) ?_
      refine Qz 41 (by kernel_rfl) rfl rfl rfl rfl rfl rfl rfl rfl ?_
      refine Qz 42 (by kernel_rfl) rfl rfl rfl rfl rfl rfl rfl rfl ?_
      refine Qz 43 (by kernel_rfl) rfl rfl rfl rfl rfl rfl rfl rfl ?_
      refine Qz 44 (by kernel_rfl) rfl rfl rfl rfl rfl rfl rfl rfl ?_
      refine Qz 45 (by kernel_rfl) rfl rfl rfl rfl rfl rfl rfl rfl ?_
      refine Qz 46 (by kernel_rfl) rfl rfl rfl rfl rfl rfl rfl rfl ?_
      refine Qz 47 (by kernel_rfl) rfl rfl rfl rfl rfl rfl rfl rfl ?_
      refine Qz 48 (by kernel_rfl) rfl rfl rfl rfl rfl rfl rfl rfl ?_
      refine QF 49 (by kernel_rfl) rfl ?_
      refine Qh rfl rfl rfl rfl rfl rfl rfl ?_
      refine Qe ?_
      refine Ql 50 (by kernel_rfl) rfl rfl rfl rfl rfl (Qk rfl rfl) ?_
      refine Ql 51 (by kernel_rfl) rfl rfl rfl rfl rfl (Qb rfl) ?_
      refine Q8 (by kernel_rfl) ?_
      refine Qo [4] [] rfl rfl rfl rfl (by rw [hF]; rfl) ?_
      refine QB ?_
      obtain rfl := Qw hm
      refine ⟨[_], [], ⟨rfl, trivial⟩, ?_, rfl, rfl, rfl, rfl⟩
      rfl
    ·replace hm := QM hq hm
     refine Qz 20 (by kernel_rfl) rfl rfl rfl rfl rfl rfl rfl rfl ?_
     refine Qz 21 (by kernel_rfl) rfl rfl rfl rfl rfl rfl rfl rfl ?_
     refine Qz 22 (by kernel_rfl) rfl rfl rfl rfl rfl rfl rfl rfl ?_
     refine Qz 23 (by kernel_rfl) rfl rfl rfl rfl rfl rfl rfl rfl ?_
     refine QF 24 (by kernel_rfl) rfl ?_
     refine Qh rfl rfl rfl rfl rfl rfl rfl ?_
     refine Qe ?_
     refine Ql 25 (by kernel_rfl) rfl rfl rfl rfl rfl (Qk rfl rfl) ?_
     refine Ql 26 (by kernel_rfl) rfl rfl rfl rfl rfl (Qd rfl) ?_
     refine Qz 27 (by kernel_rfl) rfl rfl rfl rfl rfl rfl rfl rfl ?_
     refine Qz 28 (by kernel_rfl) rfl rfl rfl rfl rfl rfl rfl rfl ?_
     refine Qz 29 (by kernel_rfl) rfl rfl rfl rfl rfl rfl rfl rfl ?_
     refine Qz 30 (by kernel_rfl) rfl rfl rfl rfl rfl rfl rfl rfl ?_
     refine QF 31 (by kernel_rfl) rfl ?_
     refine Qh rfl rfl rfl rfl rfl rfl rfl ?_
     refine Qe ?_
     refine Ql 32 (by kernel_rfl) rfl rfl rfl rfl rfl (Qk rfl rfl) ?_
     refine Ql 33 (by kernel_rfl) rfl rfl rfl rfl rfl (Qd rfl) ?_
     refine Qz 34 (by kernel_rfl) rfl rfl rfl rfl rfl rfl rfl rfl ?_
     refine Qz 35 (by kernel_rfl) rfl rfl rfl rfl rfl rfl rfl rfl ?_
     refine Qz 36 (by kernel_rfl) rfl rfl rfl rfl rfl rfl rfl rfl ?_
     refine Qz 37 (by kernel_rfl) rfl rfl rfl rfl rfl rfl rfl rfl ?_
     refine QF 38 (by kernel_rfl) rfl ?_
     refine Qh rfl rfl rfl rfl rfl rfl rfl ?_
     refine Qe ?_
     refine Ql 39 (by kernel_rfl) rfl rfl rfl rfl rfl (Qk rfl rfl) ?_
     refine Ql 40 (by kernel_rfl) rfl rfl rfl rfl rfl (Qd rfl) ?_
     refine Qz 41 (by kernel_rfl) rfl rfl rfl rfl rfl rfl rfl rfl ?_
     refine Qz 42 (by kernel_rfl) rfl rfl rfl rfl rfl rfl rfl rfl ?_
     refine Qz 43 (by kernel_rfl) rfl rfl rfl rfl rfl rfl rfl rfl ?_
     refine Qz 44 (by kernel_rfl) rfl rfl rfl rfl rfl rfl rfl rfl ?_
     refine Qz 45 (by kernel_rfl) rfl rfl rfl rfl rfl rfl rfl rfl ?_
     refine Qz 46 (by kernel_rfl) rfl rfl rfl rfl rfl rfl rfl rfl ?_
     refine Qz 47 (by kernel_rfl) rfl rfl rfl rfl rfl rfl rfl rfl ?_
     refine Qz 48 (by kernel_rfl) rfl rfl rfl rfl rfl rfl rfl rfl ?_
     refine QF 49 (by kernel_rfl) rfl ?_
     refine Qh rfl rfl rfl rfl rfl rfl rfl ?_
     refine Qe ?_
     refine Ql 50 (by kernel_rfl) rfl rfl rfl rfl rfl (Qk rfl rfl) ?_
     refine Ql 51 (by kernel_rfl) rfl rfl rfl rfl rfl (Qb rfl) ?_
     refine Q8 (by kernel_rfl) ?_
     refine Qo [4] [] rfl rfl rfl rfl (by rw [hF]; rfl) ?_
     refine QB ?_
     obtain rfl := Qw hm
     refine ⟨[_], [], ⟨rfl, trivial⟩, ?_, rfl, rfl, rfl, rfl⟩
     rfl
   ·replace hm := QM hq hm
    refine Qz 13 (by kernel_rfl) rfl rfl rfl rfl rfl rfl rfl rfl ?_
    refine Qz 14 (by kernel_rfl) rfl rfl rfl rfl rfl rfl rfl rfl ?_
    refine Qz 15 (by kernel_rfl) rfl rfl rfl rfl rfl rfl rfl rfl ?_
    refine Qz 16 (by kernel_rfl) rfl rfl rfl rfl rfl rfl rfl rfl ?_
    refine Qz 17 (by kernel_rfl) rfl rfl rfl rfl rfl rfl rfl rfl ?_
    refine Ql 18 (by kernel_rfl) rfl rfl rfl rfl rfl (Qk rfl rfl) ?_
    refine Ql 19 (by kernel_rfl) rfl rfl rfl rfl rfl (Qd rfl) ?_
    refine Qz 20 (by kernel_rfl) rfl rfl rfl rfl rfl rfl rfl rfl ?_
    refine Qz 21 (by kernel_rfl) rfl rfl rfl rfl rfl rfl rfl rfl ?_
    refine Qz 22 (by kernel_rfl) rfl rfl rfl rfl rfl rfl rfl rfl ?_
    refine Qz 23 (by kernel_rfl) rfl rfl rfl rfl rfl rfl rfl rfl ?_
    refine QF 24 (by kernel_rfl) rfl ?_
    refine Qh rfl rfl rfl rfl rfl rfl rfl ?_
    refine Qe ?_
    refine Ql 25 (by kernel_rfl) rfl rfl rfl rfl rfl (Qk rfl rfl) ?_
    refine Ql 26 (by kernel_rfl) rfl rfl rfl rfl rfl (Qd rfl) ?_
    refine Qz 27 (by kernel_rfl) rfl rfl rfl rfl rfl rfl rfl rfl ?_
    refine Qz 28 (by kernel_rfl) rfl rfl rfl rfl rfl rfl rfl rfl ?_
    refine Qz 29 (by kernel_rfl) rfl rfl rfl rfl rfl rfl rfl rfl ?_
    refine Qz 30 (by kernel_rfl) rfl rfl rfl rfl rfl rfl rfl rfl ?_
    refine QF 31 (by kernel_rfl) rfl ?_
    refine Qh rfl rfl rfl rfl rfl rfl rfl ?_
    refine Qe ?_
    refine Ql 32 (by kernel_rfl) rfl rfl rfl rfl rfl (Qk rfl rfl) ?_
    refine Ql 33 (by kernel_rfl) rfl rfl rfl rfl rfl (Qd rfl) ?_
    refine Qz 34 (by kernel_rfl) rfl rfl rfl rfl rfl rfl rfl rfl ?_
    refine Qz 35 (by kernel_rfl) rfl rfl rfl rfl rfl rfl rfl rfl ?_
    refine Qz 36 (by kernel_rfl) rfl rfl rfl rfl rfl rfl rfl rfl ?_
    refine Qz 37 (by kernel_rfl) rfl rfl rfl rfl rfl rfl rfl rfl ?_
    refine QF 38 (by kernel_rfl) rfl ?_
    refine Qh rfl rfl rfl rfl rfl rfl rfl ?_
    refine Qe ?_
    refine Ql 39 (by kernel_rfl) rfl rfl rfl rfl rfl (Qk rfl rfl) ?_
    refine Ql 40 (by kernel_rfl) rfl rfl rfl rfl rfl (Qd rfl) ?_
    refine Qz 41 (by kernel_rfl) rfl rfl rfl rfl rfl rfl rfl rfl ?_
    refine Qz 42 (by kernel_rfl) rfl rfl rfl rfl rfl rfl rfl rfl ?_
    refine Qz 43 (by kernel_rfl) rfl rfl rfl rfl rfl rfl rfl rfl ?_
    refine Qz 44 (by kernel_rfl) rfl rfl rfl rfl rfl rfl rfl rfl ?_
    refine Qz 45 (by kernel_rfl) rfl rfl rfl rfl rfl rfl rfl rfl ?_
    refine Qz 46 (by kernel_rfl) rfl rfl rfl rfl rfl rfl rfl rfl ?_
    refine Qz 47 (by kernel_rfl) rfl rfl rfl rfl rfl rfl rfl rfl ?_
    refine Qz 48 (by kernel_rfl) rfl rfl rfl rfl rfl rfl rfl rfl ?_
    refine QF 49 (by kernel_rfl) rfl ?_
    refine Qh rfl rfl rfl rfl rfl rfl rfl ?_
    refine Qe ?_
    refine Ql 50 (by kernel_rfl) rfl rfl rfl rfl rfl (Qk rfl rfl) ?_
    refine Ql 51 (by kernel_rfl) rfl rfl rfl rfl rfl (Qb rfl) ?_
    refine Q8 (by kernel_rfl) ?_
    refine Qo [4] [] rfl rfl rfl rfl (by rw [hF]; rfl) ?_
    refine QB ?_
    obtain rfl := Qw hm
    refine ⟨[_], [], ⟨rfl, trivial⟩, ?_, rfl, rfl, rfl, rfl⟩
    rfl
  ·replace hm := QM hq hm
   refine Qz 6 (by kernel_rfl) rfl rfl rfl rfl rfl rfl rfl rfl ?_
   refine Qz 7 (by kernel_rfl) rfl rfl rfl rfl rfl rfl rfl rfl ?_
   refine Qz 8 (by kernel_rfl) rfl rfl rfl rfl rfl rfl rfl rfl ?_
   refine Qz 9 (by kernel_rfl) rfl rfl rfl rfl rfl rfl rfl rfl ?_
   refine Qz 10 (by kernel_rfl) rfl rfl rfl rfl rfl rfl rfl rfl ?_
   refine Ql 11 (by kernel_rfl) rfl rfl rfl rfl rfl (Qk rfl rfl) ?_
   refine Ql 12 (by kernel_rfl) rfl rfl rfl rfl rfl (Qd rfl) ?_
   refine Qz 13 (by kernel_rfl) rfl rfl rfl rfl rfl rfl rfl rfl ?_
   refine Qz 14 (by kernel_rfl) rfl rfl rfl rfl rfl rfl rfl rfl ?_
   refine Qz 15 (by kernel_rfl) rfl rfl rfl rfl rfl rfl rfl rfl ?_
   refine Qz 16 (by kernel_rfl) rfl rfl rfl rfl rfl rfl rfl rfl ?_
   refine Qz 17 (by kernel_rfl) rfl rfl rfl rfl rfl rfl rfl rfl ?_
   refine Ql 18 (by kernel_rfl) rfl rfl rfl rfl rfl (Qk rfl rfl) ?_
   refine Ql 19 (by kernel_rfl) rfl rfl rfl rfl rfl (Qd rfl) ?_
   refine Qz 20 (by kernel_rfl) rfl rfl rfl rfl rfl rfl rfl rfl ?_
   refine Qz 21 (by kernel_rfl) rfl rfl rfl rfl rfl rfl rfl rfl ?_
   refine Qz 22 (by kernel_rfl) rfl rfl rfl rfl rfl rfl rfl rfl ?_
   refine Qz 23 (by kernel_rfl) rfl rfl rfl rfl rfl rfl rfl rfl ?_
   refine QF 24 (by kernel_rfl) rfl ?_
   refine Qh rfl rfl rfl rfl rfl rfl rfl ?_
   refine Qe ?_
   refine Ql 25 (by kernel_rfl) rfl rfl rfl rfl rfl (Qk rfl rfl) ?_
   refine Ql 26 (by kernel_rfl) rfl rfl rfl rfl rfl (Qd rfl) ?_
   refine Qz 27 (by kernel_rfl) rfl rfl rfl rfl rfl rfl rfl rfl ?_
   refine Qz 28 (by kernel_rfl) rfl rfl rfl rfl rfl rfl rfl rfl ?_
   refine Qz 29 (by kernel_rfl) rfl rfl rfl rfl rfl rfl rfl rfl ?_
   refine Qz 30 (by kernel_rfl) rfl rfl rfl rfl rfl rfl rfl rfl ?_
   refine QF 31 (by kernel_rfl) rfl ?_
   refine Qh rfl rfl rfl rfl rfl rfl rfl ?_
   refine Qe ?_
   refine Ql 32 (by kernel_rfl) rfl rfl rfl rfl rfl (Qk rfl rfl) ?_
   refine Ql 33 (by kernel_rfl) rfl rfl rfl rfl rfl (Qd rfl) ?_
   refine Qz 34 (by kernel_rfl) rfl rfl rfl rfl rfl rfl rfl rfl ?_
   refine Qz 35 (by kernel_rfl) rfl rfl rfl rfl rfl rfl rfl rfl ?_
   refine Qz 36 (by kernel_rfl) rfl rfl rfl rfl rfl rfl rfl rfl ?_
   refine Qz 37 (by kernel_rfl) rfl rfl rfl rfl rfl rfl rfl rfl ?_
   refine QF 38 (by kernel_rfl) rfl ?_
   refine Qh rfl rfl rfl rfl rfl rfl rfl ?_
   refine Qe ?_
   refine Ql 39 (by kernel_rfl) rfl rfl rfl rfl rfl (Qk rfl rfl) ?_
   refine Ql 40 (by kernel_rfl) rfl rfl rfl rfl rfl (Qd rfl) ?_
   refine Qz 41 (by kernel_rfl) rfl rfl rfl rfl rfl rfl rfl rfl ?_
   refine Qz 42 (by kernel_rfl) rfl rfl rfl rfl rfl rfl rfl rfl ?_
   refine Qz 43 (by kernel_rfl) rfl rfl rfl rfl rfl rfl rfl rfl ?_
   refine Qz 44 (by kernel_rfl) rfl rfl rfl rfl rfl rfl rfl rfl ?_
   refine Qz 45 (by kernel_rfl) rfl rfl rfl rfl rfl rfl rfl rfl ?_
   refine Qz 46 (by kernel_rfl) rfl rfl rfl rfl rfl rfl rfl rfl ?_
   refine Qz 47 (by kernel_rfl) rfl rfl rfl rfl rfl rfl rfl rfl ?_
   refine Qz 48 (by kernel_rfl) rfl rfl rfl rfl rfl rfl rfl rfl ?_
   refine QF 49 (by kernel_rfl) rfl ?_
   refine Qh rfl rfl rfl rfl rfl rfl rfl ?_
   refine Qe ?_
   refine Ql 50 (by kernel_rfl) rfl rfl rfl rfl rfl (Qk rfl rfl) ?_
   refine Ql 51 (by kernel_rfl) rfl rfl rfl rfl rfl (Qb rfl) ?_
   refine Q8 (by kernel_rfl) ?_
   refine Qo [4] [] rfl rfl rfl rfl (by rw [hF]; rfl) ?_
   refine QB ?_
   obtain rfl := Qw hm
   refine ⟨[_], [], ⟨rfl, trivial⟩, ?_, rfl, rfl, rfl, rfl⟩
   rfl
 ·refine T_drawZ [10, 11] mix (by kernel_rfl) rfl ?_
  obtain ⟨o7, ho7, hm⟩ := Qv hm
  obtain ⟨o11, ho11, hm⟩ := Qv hm
  refine Ql 0 (by kernel_rfl) rfl rfl rfl rfl rfl (Qd rfl) ?_
  refine TZ_trAt 7 (x' := .cp [.int .i64 o7.Stmt.Kind, .int .i64 o7.Stmt.Var, .int .i64 o7.Stmt.Event, .int .i64 o7.Stmt.Sum.Const, .sl 1 (List.map Qf o7.Stmt.Sum.Coeffs), .int .i64 o7.Stmt.Index.Const, .sl 1 (List.map Qf o7.Stmt.Index.Coeffs), .sl 2 (List.map Qq o7.Stmt.Facts), .int .i64 o7.at_, .sl 1 (List.map Qg o7.kids)]) rfl (Xh (QV ho7)) rfl ?_
  refine Ql 1 (by kernel_rfl) rfl rfl rfl rfl rfl (Qs rfl rfl) ?_
  refine Ql 2 (by kernel_rfl) rfl rfl rfl rfl rfl (Qu (n := 8) fa132_0 rfl rfl rfl) ?_
  refine Ql 3 (by kernel_rfl) rfl rfl rfl rfl rfl (Qt ag77 sz77 rfl rfl rfl) ?_
  refine Ql 4 (by kernel_rfl) rfl rfl rfl rfl rfl (Qd rfl) ?_
  refine TZ_trAt 11 (x' := .cp [.int .i64 o11.Stmt.Kind, .int .i64 o11.Stmt.Var, .int .i64 o11.Stmt.Event, .int .i64 o11.Stmt.Sum.Const, .sl 1 (List.map Qf o11.Stmt.Sum.Coeffs), .int .i64 o11.Stmt.Index.Const, .sl 1 (List.map Qf o11.Stmt.Index.Coeffs), .sl 2 (List.map Qq o11.Stmt.Facts), .int .i64 o11.at_, .sl 1 (List.map Qg o11.kids)]) rfl (Xh (QV ho11)) rfl ?_
  refine Ql 5 (by kernel_rfl) rfl rfl rfl rfl rfl (Qs rfl rfl) ?_
  refine Ql 6 (by kernel_rfl) rfl rfl rfl rfl rfl (Qu (n := 8) fa132_0 rfl rfl rfl) ?_
  refine XD 3 [true, true, true, true, true, true, true, true, true, false, false, false] ⟨[(0, Qg p0), (1, Qg p1), (4, .bool false), (5, .ptr 1691 0 0), (7, .cp [.int .i64 o7.Stmt.Kind, .int .i64 o7.Stmt.Var, .int .i64 o7.Stmt.Event, .int .i64 o7.Stmt.Sum.Const, .sl 1 (List.map Qf o7.Stmt.Sum.Coeffs), .int .i64 o7.Stmt.Index.Const, .sl 1 (List.map Qf o7.Stmt.Index.Coeffs), .sl 2 (List.map Qq o7.Stmt.Facts), .int .i64 o7.at_, .sl 1 (List.map Qg o7.kids)]), (8, .cp [.int .i64 o7.Stmt.Kind, .int .i64 o7.Stmt.Var, .int .i64 o7.Stmt.Event, .int .i64 o7.Stmt.Sum.Const, .sl 1 (List.map Qf o7.Stmt.Sum.Coeffs), .int .i64 o7.Stmt.Index.Const, .sl 1 (List.map Qf o7.Stmt.Index.Coeffs), .sl 2 (List.map Qq o7.Stmt.Facts), .int .i64 o7.at_, .sl 1 (List.map Qg o7.kids)]), (9, .cp [.int .i64 o7.Stmt.Kind, .int .i64 o7.Stmt.Var, .int .i64 o7.Stmt.Event, .int .i64 o7.Stmt.Sum.Const, .sl 1 (List.map Qf o7.Stmt.Sum.Coeffs), .int .i64 o7.Stmt.Index.Const, .sl 1 (List.map Qf o7.Stmt.Index.Coeffs), .sl 2 (List.map Qq o7.Stmt.Facts)]), (10, .agg [.int .i64 o7.Stmt.Kind, .int .i64 o7.Stmt.Var, .int .i64 o7.Stmt.Event, .int .i64 o7.Stmt.Sum.Const, .sl 1 (List.map Qf o7.Stmt.Sum.Coeffs), .int .i64 o7.Stmt.Index.Const, .sl 1 (List.map Qf o7.Stmt.Index.Coeffs), .sl 2 (List.map Qq o7.Stmt.Facts)]), (11, .cp [.int .i64 o11.Stmt.Kind, .int .i64 o11.Stmt.Var, .int .i64 o11.Stmt.Event, .int .i64 o11.Stmt.Sum.Const, .sl 1 (List.map Qf o11.Stmt.Sum.Coeffs), .int .i64 o11.Stmt.Index.Const, .sl 1 (List.map Qf o11.Stmt.Index.Coeffs), .sl 2 (List.map Qq o11.Stmt.Facts), .int .i64 o11.at_, .sl 1 (List.map Qg o11.kids)]), (12, .cp [.int .i64 o11.Stmt.Kind, .int .i64 o11.Stmt.Var, .int .i64 o11.Stmt.Event, .int .i64 o11.Stmt.Sum.Const, .sl 1 (List.map Qf o11.Stmt.Sum.Coeffs), .int .i64 o11.Stmt.Index.Const, .sl 1 (List.map Qf o11.Stmt.Index.Coeffs), .sl 2 (List.map Qq o11.Stmt.Facts), .int .i64 o11.at_, .sl 1 (List.map Qg o11.kids)]), (13, .cp [.int .i64 o11.Stmt.Kind, .int .i64 o11.Stmt.Var, .int .i64 o11.Stmt.Event, .int .i64 o11.Stmt.Sum.Const, .sl 1 (List.map Qf o11.Stmt.Sum.Coeffs), .int .i64 o11.Stmt.Index.Const, .sl 1 (List.map Qf o11.Stmt.Index.Coeffs), .sl 2 (List.map Qq o11.Stmt.Facts)]), (14, .agg [.int .i64 o11.Stmt.Kind, .int .i64 o11.Stmt.Var, .int .i64 o11.Stmt.Event, .int .i64 o11.Stmt.Sum.Const, .sl 1 (List.map Qf o11.Stmt.Sum.Coeffs), .int .i64 o11.Stmt.Index.Const, .sl 1 (List.map Qf o11.Stmt.Index.Coeffs), .sl 2 (List.map Qq o11.Stmt.Facts)])], [(1691, .box [.int .i64 (0 : Int), .int .i64 (0 : Int), .int .i64 (0 : Int), .int .i64 (0 : Int), .snil, .int .i64 (0 : Int), .snil, .snil])]⟩ ?_ (fun hS970_0 => ?_)
  ·refine QF 9 (by kernel_rfl) rfl ?_
   refine Xk 1771 z77 rfl rfl rfl rfl rfl rfl rfl ?_
   refine Qe ?_
   refine QF 10 (by kernel_rfl) rfl ?_
   refine Qr sz77 rfl rfl rfl rfl rfl rfl rfl rfl rfl ?_
   refine Qe ?_
   refine QF 11 (by kernel_rfl) rfl ?_
   refine Qr sz77 rfl rfl rfl rfl rfl rfl rfl rfl rfl ?_
   refine Qe ?_
   refine Q8 (by kernel_rfl) ?_
   refine Qo [0, 1, 5, 6] [1691, 1771] rfl rfl rfl rfl (by rw [hF]; rfl) ?_
   refine T_ren [(1691, 731), (1771, 811)] rfl rfl rfl (by rw [hF]; rfl) ?_
   exact hj0 (o7.Stmt.Kind, o7.Stmt.Var, o7.Stmt.Event, o7.Stmt.Sum.Const, o7.Stmt.Sum.Coeffs, o7.Stmt.Index.Const, o7.Stmt.Index.Coeffs, o7.Stmt.Facts, o11.Stmt.Kind, o11.Stmt.Var, o11.Stmt.Event, o11.Stmt.Sum.Const, o11.Stmt.Sum.Coeffs, o11.Stmt.Index.Const, o11.Stmt.Index.Coeffs, o11.Stmt.Facts) hm
  refine XD 3 [true, true, true, true, true, true, true, true, false, true, false, false] ⟨[(0, Qg p0), (1, Qg p1), (4, .bool false), (6, .ptr 1771 0 0), (7, .cp [.int .i64 o7.Stmt.Kind, .int .i64 o7.Stmt.Var, .int .i64 o7.Stmt.Event, .int .i64 o7.Stmt.Sum.Const, .sl 1 (List.map Qf o7.Stmt.Sum.Coeffs), .int .i64 o7.Stmt.Index.Const, .sl 1 (List.map Qf o7.Stmt.Index.Coeffs), .sl 2 (List.map Qq o7.Stmt.Facts), .int .i64 o7.at_, .sl 1 (List.map Qg o7.kids)]), (8, .cp [.int .i64 o7.Stmt.Kind, .int .i64 o7.Stmt.Var, .int .i64 o7.Stmt.Event, .int .i64 o7.Stmt.Sum.Const, .sl 1 (List.map Qf o7.Stmt.Sum.Coeffs), .int .i64 o7.Stmt.Index.Const, .sl 1 (List.map Qf o7.Stmt.Index.Coeffs), .sl 2 (List.map Qq o7.Stmt.Facts), .int .i64 o7.at_, .sl 1 (List.map Qg o7.kids)]), (9, .cp [.int .i64 o7.Stmt.Kind, .int .i64 o7.Stmt.Var, .int .i64 o7.Stmt.Event, .int .i64 o7.Stmt.Sum.Const, .sl 1 (List.map Qf o7.Stmt.Sum.Coeffs), .int .i64 o7.Stmt.Index.Const, .sl 1 (List.map Qf o7.Stmt.Index.Coeffs), .sl 2 (List.map Qq o7.Stmt.Facts)]), (10, .agg [.int .i64 o7.Stmt.Kind, .int .i64 o7.Stmt.Var, .int .i64 o7.Stmt.Event, .int .i64 o7.Stmt.Sum.Const, .sl 1 (List.map Qf o7.Stmt.Sum.Coeffs), .int .i64 o7.Stmt.Index.Const, .sl 1 (List.map Qf o7.Stmt.Index.Coeffs), .sl 2 (List.map Qq o7.Stmt.Facts)]), (11, .cp [.int .i64 o11.Stmt.Kind, .int .i64 o11.Stmt.Var, .int .i64 o11.Stmt.Event, .int .i64 o11.Stmt.Sum.Const, .sl 1 (List.map Qf o11.Stmt.Sum.Coeffs), .int .i64 o11.Stmt.Index.Const, .sl 1 (List.map Qf o11.Stmt.Index.Coeffs), .sl 2 (List.map Qq o11.Stmt.Facts), .int .i64 o11.at_, .sl 1 (List.map Qg o11.kids)]), (12, .cp [.int .i64 o11.Stmt.Kind, .int .i64 o11.Stmt.Var, .int .i64 o11.Stmt.Event, .int .i64 o11.Stmt.Sum.Const, .sl 1 (List.map Qf o11.Stmt.Sum.Coeffs), .int .i64 o11.Stmt.Index.Const, .sl 1 (List.map Qf o11.Stmt.Index.Coeffs), .sl 2 (List.map Qq o11.Stmt.Facts), .int .i64 o11.at_, .sl 1 (List.map Qg o11.kids)]), (13, .cp [.int .i64 o11.Stmt.Kind, .int .i64 o11.Stmt.Var, .int .i64 o11.Stmt.Event, .int .i64 o11.Stmt.Sum.Const, .sl 1 (List.map Qf o11.Stmt.Sum.Coeffs), .int .i64 o11.Stmt.Index.Const, .sl 1 (List.map Qf o11.Stmt.Index.Coeffs), .sl 2 (List.map Qq o11.Stmt.Facts)]), (14, .agg [.int .i64 o11.Stmt.Kind, .int .i64 o11.Stmt.Var, .int .i64 o11.Stmt.Event, .int .i64 o11.Stmt.Sum.Const, .sl 1 (List.map Qf o11.Stmt.Sum.Coeffs), .int .i64 o11.Stmt.Index.Const, .sl 1 (List.map Qf o11.Stmt.Index.Coeffs), .sl 2 (List.map Qq o11.Stmt.Facts)])], [(1771, .box [.int .i64 (0 : Int), .int .i64 (0 : Int), .int .i64 (0 : Int), .int .i64 (0 : Int), .snil, .int .i64 (0 : Int), .snil, .snil])]⟩ ?_ (fun hS970_1 => ?_)
  ·refine QF 8 (by kernel_rfl) rfl ?_
   refine Xk 1691 z77 rfl rfl rfl rfl rfl rfl rfl ?_
   refine Qe ?_
   refine QF 10 (by kernel_rfl) rfl ?_
   refine Qr sz77 rfl rfl rfl rfl rfl rfl rfl rfl rfl ?_
   refine Qe ?_
   refine QF 11 (by kernel_rfl) rfl ?_
   refine Qr sz77 rfl rfl rfl rfl rfl rfl rfl rfl rfl ?_
   refine Qe ?_
   refine Q8 (by kernel_rfl) ?_
   refine Qo [0, 1, 5, 6] [1691, 1771] rfl rfl rfl rfl (by rw [hF]; rfl) ?_
   refine T_ren [(1691, 731), (1771, 811)] rfl rfl rfl (by rw [hF]; rfl) ?_
   exact hj0 (o7.Stmt.Kind, o7.Stmt.Var, o7.Stmt.Event, o7.Stmt.Sum.Const, o7.Stmt.Sum.Coeffs, o7.Stmt.Index.Const, o7.Stmt.Index.Coeffs, o7.Stmt.Facts, o11.Stmt.Kind, o11.Stmt.Var, o11.Stmt.Event, o11.Stmt.Sum.Const, o11.Stmt.Sum.Coeffs, o11.Stmt.Index.Const, o11.Stmt.Index.Coeffs, o11.Stmt.Facts) hm
  refine XD 4 [true, true, true, true, true, true, true, true, false, false, false, false] ⟨[(0, Qg p0), (1, Qg p1), (4, .bool false), (7, .cp [.int .i64 o7.Stmt.Kind, .int .i64 o7.Stmt.Var, .int .i64 o7.Stmt.Event, .int .i64 o7.Stmt.Sum.Const, .sl 1 (List.map Qf o7.Stmt.Sum.Coeffs), .int .i64 o7.Stmt.Index.Const, .sl 1 (List.map Qf o7.Stmt.Index.Coeffs), .sl 2 (List.map Qq o7.Stmt.Facts), .int .i64 o7.at_, .sl 1 (List.map Qg o7.kids)]), (8, .cp [.int .i64 o7.Stmt.Kind, .int .i64 o7.Stmt.Var, .int .i64 o7.Stmt.Event, .int .i64 o7.Stmt.Sum.Const, .sl 1 (List.map Qf o7.Stmt.Sum.Coeffs), .int .i64 o7.Stmt.Index.Const, .sl 1 (List.map Qf o7.Stmt.Index.Coeffs), .sl 2 (List.map Qq o7.Stmt.Facts), .int .i64 o7.at_, .sl 1 (List.map Qg o7.kids)]), (9, .cp [.int .i64 o7.Stmt.Kind, .int .i64 o7.Stmt.Var, .int .i64 o7.Stmt.Event, .int .i64 o7.Stmt.Sum.Const, .sl 1 (List.map Qf o7.Stmt.Sum.Coeffs), .int .i64 o7.Stmt.Index.Const, .sl 1 (List.map Qf o7.Stmt.Index.Coeffs), .sl 2 (List.map Qq o7.Stmt.Facts)]), (10, .agg [.int .i64 o7.Stmt.Kind, .int .i64 o7.Stmt.Var, .int .i64 o7.Stmt.Event, .int .i64 o7.Stmt.Sum.Const, .sl 1 (List.map Qf o7.Stmt.Sum.Coeffs), .int .i64 o7.Stmt.Index.Const, .sl 1 (List.map Qf o7.Stmt.Index.Coeffs), .sl 2 (List.map Qq o7.Stmt.Facts)]), (11, .cp [.int .i64 o11.Stmt.Kind, .int .i64 o11.Stmt.Var, .int .i64 o11.Stmt.Event, .int .i64 o11.Stmt.Sum.Const, .sl 1 (List.map Qf o11.Stmt.Sum.Coeffs), .int .i64 o11.Stmt.Index.Const, .sl 1 (List.map Qf o11.Stmt.Index.Coeffs), .sl 2 (List.map Qq o11.Stmt.Facts), .int .i64 o11.at_, .sl 1 (List.map Qg o11.kids)]), (12, .cp [.int .i64 o11.Stmt.Kind, .int .i64 o11.Stmt.Var, .int .i64 o11.Stmt.Event, .int .i64 o11.Stmt.Sum.Const, .sl 1 (List.map Qf o11.Stmt.Sum.Coeffs), .int .i64 o11.Stmt.Index.Const, .sl 1 (List.map Qf o11.Stmt.Index.Coeffs), .sl 2 (List.map Qq o11.Stmt.Facts), .int .i64 o11.at_, .sl 1 (List.map Qg o11.kids)]), (13, .cp [.int .i64 o11.Stmt.Kind, .int .i64 o11.Stmt.Var, .int .i64 o11.Stmt.Event, .int .i64 o11.Stmt.Sum.Const, .sl 1 (List.map Qf o11.Stmt.Sum.Coeffs), .int .i64 o11.Stmt.Index.Const, .sl 1 (List.map Qf o11.Stmt.Index.Coeffs), .sl 2 (List.map Qq o11.Stmt.Facts)]), (14, .agg [.int .i64 o11.Stmt.Kind, .int .i64 o11.Stmt.Var, .int .i64 o11.Stmt.Event, .int .i64 o11.Stmt.Sum.Const, .sl 1 (List.map Qf o11.Stmt.Sum.Coeffs), .int .i64 o11.Stmt.Index.Const, .sl 1 (List.map Qf o11.Stmt.Index.Coeffs), .sl 2 (List.map Qq o11.Stmt.Facts)])], []⟩ ?_ (fun hS970_2 => ?_)
  ·refine TZ_each [8, 9] (by kernel_rfl) rfl ?_
   refine ⟨?_, ?_⟩
   ·refine ⟨_, rfl, ?_⟩
    refine Xk 1691 z77 rfl rfl rfl rfl rfl rfl rfl ?_
    refine Qe ?_
    refine QU [0, 1, 4, 5, 7, 8, 9, 10, 11, 12, 13, 14] [1691] rfl rfl rfl rfl (by rw [hF]; rfl) ?_
    exact hS970_0
   ·refine ⟨_, rfl, ?_⟩
    refine Xk 1771 z77 rfl rfl rfl rfl rfl rfl rfl ?_
    refine Qe ?_
    refine QU [0, 1, 4, 6, 7, 8, 9, 10, 11, 12, 13, 14] [1771] rfl rfl rfl rfl (by rw [hF]; rfl) ?_
    exact hS970_1
  refine XD 2 [true, true, true, true, true, true, true, true, true, true, false, false] ⟨[(0, Qg p0), (1, Qg p1), (4, .bool false), (5, .ptr 1691 0 0), (6, .ptr 1771 0 0), (7, .cp [.int .i64 o7.Stmt.Kind, .int .i64 o7.Stmt.Var, .int .i64 o7.Stmt.Event, .int .i64 o7.Stmt.Sum.Const, .sl 1 (List.map Qf o7.Stmt.Sum.Coeffs), .int .i64 o7.Stmt.Index.Const, .sl 1 (List.map Qf o7.Stmt.Index.Coeffs), .sl 2 (List.map Qq o7.Stmt.Facts), .int .i64 o7.at_, .sl 1 (List.map Qg o7.kids)]), (8, .cp [.int .i64 o7.Stmt.Kind, .int .i64 o7.Stmt.Var, .int .i64 o7.Stmt.Event, .int .i64 o7.Stmt.Sum.Const, .sl 1 (List.map Qf o7.Stmt.Sum.Coeffs), .int .i64 o7.Stmt.Index.Const, .sl 1 (List.map Qf o7.Stmt.Index.Coeffs), .sl 2 (List.map Qq o7.Stmt.Facts), .int .i64 o7.at_, .sl 1 (List.map Qg o7.kids)]), (9, .cp [.int .i64 o7.Stmt.Kind, .int .i64 o7.Stmt.Var, .int .i64 o7.Stmt.Event, .int .i64 o7.Stmt.Sum.Const, .sl 1 (List.map Qf o7.Stmt.Sum.Coeffs), .int .i64 o7.Stmt.Index.Const, .sl 1 (List.map Qf o7.Stmt.Index.Coeffs), .sl 2 (List.map Qq o7.Stmt.Facts)]), (10, .agg [.int .i64 o7.Stmt.Kind, .int .i64 o7.Stmt.Var, .int .i64 o7.Stmt.Event, .int .i64 o7.Stmt.Sum.Const, .sl 1 (List.map Qf o7.Stmt.Sum.Coeffs), .int .i64 o7.Stmt.Index.Const, .sl 1 (List.map Qf o7.Stmt.Index.Coeffs), .sl 2 (List.map Qq o7.Stmt.Facts)]), (11, .cp [.int .i64 o11.Stmt.Kind, .int .i64 o11.Stmt.Var, .int .i64 o11.Stmt.Event, .int .i64 o11.Stmt.Sum.Const, .sl 1 (List.map Qf o11.Stmt.Sum.Coeffs), .int .i64 o11.Stmt.Index.Const, .sl 1 (List.map Qf o11.Stmt.Index.Coeffs), .sl 2 (List.map Qq o11.Stmt.Facts), .int .i64 o11.at_, .sl 1 (List.map Qg o11.kids)]), (12, .cp [.int .i64 o11.Stmt.Kind, .int .i64 o11.Stmt.Var, .int .i64 o11.Stmt.Event, .int .i64 o11.Stmt.Sum.Const, .sl 1 (List.map Qf o11.Stmt.Sum.Coeffs), .int .i64 o11.Stmt.Index.Const, .sl 1 (List.map Qf o11.Stmt.Index.Coeffs), .sl 2 (List.map Qq o11.Stmt.Facts), .int .i64 o11.at_, .sl 1 (List.map Qg o11.kids)]), (13, .cp [.int .i64 o11.Stmt.Kind, .int .i64 o11.Stmt.Var, .int .i64 o11.Stmt.Event, .int .i64 o11.Stmt.Sum.Const, .sl 1 (List.map Qf o11.Stmt.Sum.Coeffs), .int .i64 o11.Stmt.Index.Const, .sl 1 (List.map Qf o11.Stmt.Index.Coeffs), .sl 2 (List.map Qq o11.Stmt.Facts)]), (14, .agg [.int .i64 o11.Stmt.Kind, .int .i64 o11.Stmt.Var, .int .i64 o11.Stmt.Event, .int .i64 o11.Stmt.Sum.Const, .sl 1 (List.map Qf o11.Stmt.Sum.Coeffs), .int .i64 o11.Stmt.Index.Const, .sl 1 (List.map Qf o11.Stmt.Index.Coeffs), .sl 2 (List.map Qq o11.Stmt.Facts)])], [(1691, .box [.int .i64 (0 : Int), .int .i64 (0 : Int), .int .i64 (0 : Int), .int .i64 (0 : Int), .snil, .int .i64 (0 : Int), .snil, .snil]), (1771, .box [.int .i64 (0 : Int), .int .i64 (0 : Int), .int .i64 (0 : Int), .int .i64 (0 : Int), .snil, .int .i64 (0 : Int), .snil, .snil])]⟩ ?_ (fun hS970_3 => ?_)
  ·refine QF 10 (by kernel_rfl) rfl ?_
   refine Qr sz77 rfl rfl rfl rfl rfl rfl rfl rfl rfl ?_
   refine Qe ?_
   refine QF 11 (by kernel_rfl) rfl ?_
   refine Qr sz77 rfl rfl rfl rfl rfl rfl rfl rfl rfl ?_
   refine Qe ?_
   refine Q8 (by kernel_rfl) ?_
   refine Qo [0, 1, 5, 6] [1691, 1771] rfl rfl rfl rfl (by rw [hF]; rfl) ?_
   refine T_ren [(1691, 731), (1771, 811)] rfl rfl rfl (by rw [hF]; rfl) ?_
   exact hj0 (o7.Stmt.Kind, o7.Stmt.Var, o7.Stmt.Event, o7.Stmt.Sum.Const, o7.Stmt.Sum.Coeffs, o7.Stmt.Index.Const, o7.Stmt.Index.Coeffs, o7.Stmt.Facts, o11.Stmt.Kind, o11.Stmt.Var, o11.Stmt.Event, o11.Stmt.Sum.Const, o11.Stmt.Sum.Coeffs, o11.Stmt.Index.Const, o11.Stmt.Index.Coeffs, o11.Stmt.Facts) hm
  refine XD 2 [true, true, true, true, true, true, true, false, true, true, true, false] ⟨[(0, Qg p0), (1, Qg p1), (4, .bool false), (5, .ptr 1691 0 0), (6, .ptr 1771 0 0), (7, .cp [.int .i64 o7.Stmt.Kind, .int .i64 o7.Stmt.Var, .int .i64 o7.Stmt.Event, .int .i64 o7.Stmt.Sum.Const, .sl 1 (List.map Qf o7.Stmt.Sum.Coeffs), .int .i64 o7.Stmt.Index.Const, .sl 1 (List.map Qf o7.Stmt.Index.Coeffs), .sl 2 (List.map Qq o7.Stmt.Facts), .int .i64 o7.at_, .sl 1 (List.map Qg o7.kids)]), (8, .cp [.int .i64 o7.Stmt.Kind, .int .i64 o7.Stmt.Var, .int .i64 o7.Stmt.Event, .int .i64 o7.Stmt.Sum.Const, .sl 1 (List.map Qf o7.Stmt.Sum.Coeffs), .int .i64 o7.Stmt.Index.Const, .sl 1 (List.map Qf o7.Stmt.Index.Coeffs), .sl 2 (List.map Qq o7.Stmt.Facts), .int .i64 o7.at_, .sl 1 (List.map Qg o7.kids)]), (9, .cp [.int .i64 o7.Stmt.Kind, .int .i64 o7.Stmt.Var, .int .i64 o7.Stmt.Event, .int .i64 o7.Stmt.Sum.Const, .sl 1 (List.map Qf o7.Stmt.Sum.Coeffs), .int .i64 o7.Stmt.Index.Const, .sl 1 (List.map Qf o7.Stmt.Index.Coeffs), .sl 2 (List.map Qq o7.Stmt.Facts)]), (10, .agg [.int .i64 o7.Stmt.Kind, .int .i64 o7.Stmt.Var, .int .i64 o7.Stmt.Event, .int .i64 o7.Stmt.Sum.Const, .sl 1 (List.map Qf o7.Stmt.Sum.Coeffs), .int .i64 o7.Stmt.Index.Const, .sl 1 (List.map Qf o7.Stmt.Index.Coeffs), .sl 2 (List.map Qq o7.Stmt.Facts)]), (11, .cp [.int .i64 o11.Stmt.Kind, .int .i64 o11.Stmt.Var, .int .i64 o11.Stmt.Event, .int .i64 o11.Stmt.Sum.Const, .sl 1 (List.map Qf o11.Stmt.Sum.Coeffs), .int .i64 o11.Stmt.Index.Const, .sl 1 (List.map Qf o11.Stmt.Index.Coeffs), .sl 2 (List.map Qq o11.Stmt.Facts), .int .i64 o11.at_, .sl 1 (List.map Qg o11.kids)]), (12, .cp [.int .i64 o11.Stmt.Kind, .int .i64 o11.Stmt.Var, .int .i64 o11.Stmt.Event, .int .i64 o11.Stmt.Sum.Const, .sl 1 (List.map Qf o11.Stmt.Sum.Coeffs), .int .i64 o11.Stmt.Index.Const, .sl 1 (List.map Qf o11.Stmt.Index.Coeffs), .sl 2 (List.map Qq o11.Stmt.Facts), .int .i64 o11.at_, .sl 1 (List.map Qg o11.kids)]), (13, .cp [.int .i64 o11.Stmt.Kind, .int .i64 o11.Stmt.Var, .int .i64 o11.Stmt.Event, .int .i64 o11.Stmt.Sum.Const, .sl 1 (List.map Qf o11.Stmt.Sum.Coeffs), .int .i64 o11.Stmt.Index.Const, .sl 1 (List.map Qf o11.Stmt.Index.Coeffs), .sl 2 (List.map Qq o11.Stmt.Facts)])], [(1691, .box [.int .i64 o7.Stmt.Kind, .int .i64 o7.Stmt.Var, .int .i64 o7.Stmt.Event, .int .i64 o7.Stmt.Sum.Const, .sl 1 (List.map Qf o7.Stmt.Sum.Coeffs), .int .i64 o7.Stmt.Index.Const, .sl 1 (List.map Qf o7.Stmt.Index.Coeffs), .sl 2 (List.map Qq o7.Stmt.Facts)]), (1771, .box [.int .i64 (0 : Int), .int .i64 (0 : Int), .int .i64 (0 : Int), .int .i64 (0 : Int), .snil, .int .i64 (0 : Int), .snil, .snil])]⟩ ?_ (fun hS970_4 => ?_)
  ·refine Ql 7 (by kernel_rfl) rfl rfl rfl rfl rfl (Qt ag77 sz77 rfl rfl rfl) ?_
   refine QF 11 (by kernel_rfl) rfl ?_
   refine Qr sz77 rfl rfl rfl rfl rfl rfl rfl rfl rfl ?_
   refine Qe ?_
   refine Q8 (by kernel_rfl) ?_
   refine Qo [0, 1, 5, 6] [1691, 1771] rfl rfl rfl rfl (by rw [hF]; rfl) ?_
   refine T_ren [(1691, 731), (1771, 811)] rfl rfl rfl (by rw [hF]; rfl) ?_
   exact hj0 (o7.Stmt.Kind, o7.Stmt.Var, o7.Stmt.Event, o7.Stmt.Sum.Const, o7.Stmt.Sum.Coeffs, o7.Stmt.Index.Const, o7.Stmt.Index.Coeffs, o7.Stmt.Facts, o11.Stmt.Kind, o11.Stmt.Var, o11.Stmt.Event, o11.Stmt.Sum.Const, o11.Stmt.Sum.Coeffs, o11.Stmt.Index.Const, o11.Stmt.Index.Coeffs, o11.Stmt.Facts) hm
  refine XD 3 [true, true, true, true, true, true, true, false, true, true, false, false] ⟨[(0, Qg p0), (1, Qg p1), (4, .bool false), (5, .ptr 1691 0 0), (6, .ptr 1771 0 0), (7, .cp [.int .i64 o7.Stmt.Kind, .int .i64 o7.Stmt.Var, .int .i64 o7.Stmt.Event, .int .i64 o7.Stmt.Sum.Const, .sl 1 (List.map Qf o7.Stmt.Sum.Coeffs), .int .i64 o7.Stmt.Index.Const, .sl 1 (List.map Qf o7.Stmt.Index.Coeffs), .sl 2 (List.map Qq o7.Stmt.Facts), .int .i64 o7.at_, .sl 1 (List.map Qg o7.kids)]), (8, .cp [.int .i64 o7.Stmt.Kind, .int .i64 o7.Stmt.Var, .int .i64 o7.Stmt.Event, .int .i64 o7.Stmt.Sum.Const, .sl 1 (List.map Qf o7.Stmt.Sum.Coeffs), .int .i64 o7.Stmt.Index.Const, .sl 1 (List.map Qf o7.Stmt.Index.Coeffs), .sl 2 (List.map Qq o7.Stmt.Facts), .int .i64 o7.at_, .sl 1 (List.map Qg o7.kids)]), (9, .cp [.int .i64 o7.Stmt.Kind, .int .i64 o7.Stmt.Var, .int .i64 o7.Stmt.Event, .int .i64 o7.Stmt.Sum.Const, .sl 1 (List.map Qf o7.Stmt.Sum.Coeffs), .int .i64 o7.Stmt.Index.Const, .sl 1 (List.map Qf o7.Stmt.Index.Coeffs), .sl 2 (List.map Qq o7.Stmt.Facts)]), (10, .agg [.int .i64 o7.Stmt.Kind, .int .i64 o7.Stmt.Var, .int .i64 o7.Stmt.Event, .int .i64 o7.Stmt.Sum.Const, .sl 1 (List.map Qf o7.Stmt.Sum.Coeffs), .int .i64 o7.Stmt.Index.Const, .sl 1 (List.map Qf o7.Stmt.Index.Coeffs), .sl 2 (List.map Qq o7.Stmt.Facts)]), (11, .cp [.int .i64 o11.Stmt.Kind, .int .i64 o11.Stmt.Var, .int .i64 o11.Stmt.Event, .int .i64 o11.Stmt.Sum.Const, .sl 1 (List.map Qf o11.Stmt.Sum.Coeffs), .int .i64 o11.Stmt.Index.Const, .sl 1 (List.map Qf o11.Stmt.Index.Coeffs), .sl 2 (List.map Qq o11.Stmt.Facts), .int .i64 o11.at_, .sl 1 (List.map Qg o11.kids)]), (12, .cp [.int .i64 o11.Stmt.Kind, .int .i64 o11.Stmt.Var, .int .i64 o11.Stmt.Event, .int .i64 o11.Stmt.Sum.Const, .sl 1 (List.map Qf o11.Stmt.Sum.Coeffs), .int .i64 o11.Stmt.Index.Const, .sl 1 (List.map Qf o11.Stmt.Index.Coeffs), .sl 2 (List.map Qq o11.Stmt.Facts), .int .i64 o11.at_, .sl 1 (List.map Qg o11.kids)]), (13, .cp [.int .i64 o11.Stmt.Kind, .int .i64 o11.Stmt.Var, .int .i64 o11.Stmt.Event, .int .i64 o11.Stmt.Sum.Const, .sl 1 (List.map Qf o11.Stmt.Sum.Coeffs), .int .i64 o11.Stmt.Index.Const, .sl 1 (List.map Qf o11.Stmt.Index.Coeffs), .sl 2 (List.map Qq o11.Stmt.Facts)])], [(1691, .box [.int .i64 (0 : Int), .int .i64 (0 : Int), .int .i64 (0 : Int), .int .i64 (0 : Int), .snil, .int .i64 (0 : Int), .snil, .snil]), (1771, .box [.int .i64 (0 : Int), .int .i64 (0 : Int), .int .i64 (0 : Int), .int .i64 (0 : Int), .snil, .int .i64 (0 : Int), .snil, .snil])]⟩ ?_ (fun hS970_5 => ?_)
  ·refine TZ_each [7, 10] (by kernel_rfl) rfl ?_
   refine ⟨?_, ?_⟩
   ·refine ⟨_, rfl, ?_⟩
    refine Qa rfl rfl rfl rfl (Qt ag77 sz77 rfl rfl rfl) ?_
    refine Qe ?_
    refine QU [0, 1, 4, 5, 6, 7, 8, 9, 10, 11, 12, 13, 14] [1691, 1771] rfl rfl rfl rfl (by rw [hF]; rfl) ?_
    exact hS970_3
   ·refine ⟨_, rfl, ?_⟩
    refine Qr sz77 rfl rfl rfl rfl rfl rfl rfl rfl rfl ?_
    refine Qe ?_
    refine QU [0, 1, 4, 5, 6, 7, 8, 9, 10, 11, 12, 13] [1691, 1771] rfl rfl rfl rfl (by rw [hF]; rfl) ?_
    exact hS970_4
  refine XD 4 [true, true, true, true, true, true, true, false, true, false, false, false] ⟨[(0, Qg p0), (1, Qg p1), (4, .bool false), (5, .ptr 1691 0 0), (7, .cp [.int .i64 o7.Stmt.Kind, .int .i64 o7.Stmt.Var, .int .i64 o7.Stmt.Event, .int .i64 o7.Stmt.Sum.Const, .sl 1 (List.map Qf o7.Stmt.Sum.Coeffs), .int .i64 o7.Stmt.Index.Const, .sl 1 (List.map Qf o7.Stmt.Index.Coeffs), .sl 2 (List.map Qq o7.Stmt.Facts), .int .i64 o7.at_, .sl 1 (List.map Qg o7.kids)]), (8, .cp [.int .i64 o7.Stmt.Kind, .int .i64 o7.Stmt.Var, .int .i64 o7.Stmt.Event, .int .i64 o7.Stmt.Sum.Const, .sl 1 (List.map Qf o7.Stmt.Sum.Coeffs), .int .i64 o7.Stmt.Index.Const, .sl 1 (List.map Qf o7.Stmt.Index.Coeffs), .sl 2 (List.map Qq o7.Stmt.Facts), .int .i64 o7.at_, .sl 1 (List.map Qg o7.kids)]), (9, .cp [.int .i64 o7.Stmt.Kind, .int .i64 o7.Stmt.Var, .int .i64 o7.Stmt.Event, .int .i64 o7.Stmt.Sum.Const, .sl 1 (List.map Qf o7.Stmt.Sum.Coeffs), .int .i64 o7.Stmt.Index.Const, .sl 1 (List.map Qf o7.Stmt.Index.Coeffs), .sl 2 (List.map Qq o7.Stmt.Facts)]), (10, .agg [.int .i64 o7.Stmt.Kind, .int .i64 o7.Stmt.Var, .int .i64 o7.Stmt.Event, .int .i64 o7.Stmt.Sum.Const, .sl 1 (List.map Qf o7.Stmt.Sum.Coeffs), .int .i64 o7.Stmt.Index.Const, .sl 1 (List.map Qf o7.Stmt.Index.Coeffs), .sl 2 (List.map Qq o7.Stmt.Facts)]), (11, .cp [.int .i64 o11.Stmt.Kind, .int .i64 o11.Stmt.Var, .int .i64 o11.Stmt.Event, .int .i64 o11.Stmt.Sum.Const, .sl 1 (List.map Qf o11.Stmt.Sum.Coeffs), .int .i64 o11.Stmt.Index.Const, .sl 1 (List.map Qf o11.Stmt.Index.Coeffs), .sl 2 (List.map Qq o11.Stmt.Facts), .int .i64 o11.at_, .sl 1 (List.map Qg o11.kids)]), (12, .cp [.int .i64 o11.Stmt.Kind, .int .i64 o11.Stmt.Var, .int .i64 o11.Stmt.Event, .int .i64 o11.Stmt.Sum.Const, .sl 1 (List.map Qf o11.Stmt.Sum.Coeffs), .int .i64 o11.Stmt.Index.Const, .sl 1 (List.map Qf o11.Stmt.Index.Coeffs), .sl 2 (List.map Qq o11.Stmt.Facts), .int .i64 o11.at_, .sl 1 (List.map Qg o11.kids)]), (13, .cp [.int .i64 o11.Stmt.Kind, .int .i64 o11.Stmt.Var, .int .i64 o11.Stmt.Event, .int .i64 o11.Stmt.Sum.Const, .sl 1 (List.map Qf o11.Stmt.Sum.Coeffs), .int .i64 o11.Stmt.Index.Const, .sl 1 (List.map Qf o11.Stmt.Index.Coeffs), .sl 2 (List.map Qq o11.Stmt.Facts)])], [(1691, .box [.int .i64 (0 : Int), .int .i64 (0 : Int), .int .i64 (0 : Int), .int .i64 (0 : Int), .snil, .int .i64 (0 : Int), .snil, .snil])]⟩ ?_ (fun hS970_6 => ?_)
  ·refine TZ_each [7, 9] (by kernel_rfl) rfl ?_
   refine ⟨?_, ?_⟩
   ·refine ⟨_, rfl, ?_⟩
    refine Qa rfl rfl rfl rfl (Qt ag77 sz77 rfl rfl rfl) ?_
    refine Qe ?_
    refine QU [0, 1, 4, 5, 7, 8, 9, 10, 11, 12, 13, 14] [1691] rfl rfl rfl rfl (by rw [hF]; rfl) ?_
    exact hS970_0
   ·refine ⟨_, rfl, ?_⟩
    refine Xk 1771 z77 rfl rfl rfl rfl rfl rfl rfl ?_
    refine Qe ?_
    refine QU [0, 1, 4, 5, 6, 7, 8, 9, 10, 11, 12, 13] [1691, 1771] rfl rfl rfl rfl (by rw [hF]; rfl) ?_
    exact hS970_5
  refine XD 4 [true, true, true, true, true, true, true, false, false, true, false, false] ⟨[(0, Qg p0), (1, Qg p1), (4, .bool false), (6, .ptr 1771 0 0), (7, .cp [.int .i64 o7.Stmt.Kind, .int .i64 o7.Stmt.Var, .int .i64 o7.Stmt.Event, .int .i64 o7.Stmt.Sum.Const, .sl 1 (List.map Qf o7.Stmt.Sum.Coeffs), .int .i64 o7.Stmt.Index.Const, .sl 1 (List.map Qf o7.Stmt.Index.Coeffs), .sl 2 (List.map Qq o7.Stmt.Facts), .int .i64 o7.at_, .sl 1 (List.map Qg o7.kids)]), (8, .cp [.int .i64 o7.Stmt.Kind, .int .i64 o7.Stmt.Var, .int .i64 o7.Stmt.Event, .int .i64 o7.Stmt.Sum.Const, .sl 1 (List.map Qf o7.Stmt.Sum.Coeffs), .int .i64 o7.Stmt.Index.Const, .sl 1 (List.map Qf o7.Stmt.Index.Coeffs), .sl 2 (List.map Qq o7.Stmt.Facts), .int .i64 o7.at_, .sl 1 (List.map Qg o7.kids)]), (9, .cp [.int .i64 o7.Stmt.Kind, .int .i64 o7.Stmt.Var, .int .i64 o7.Stmt.Event, .int .i64 o7.Stmt.Sum.Const, .sl 1 (List.map Qf o7.Stmt.Sum.Coeffs), .int .i64 o7.Stmt.Index.Const, .sl 1 (List.map Qf o7.Stmt.Index.Coeffs), .sl 2 (List.map Qq o7.Stmt.Facts)]), (10, .agg [.int .i64 o7.Stmt.Kind, .int .i64 o7.Stmt.Var, .int .i64 o7.Stmt.Event, .int .i64 o7.Stmt.Sum.Const, .sl 1 (List.map Qf o7.Stmt.Sum.Coeffs), .int .i64 o7.Stmt.Index.Const, .sl 1 (List.map Qf o7.Stmt.Index.Coeffs), .sl 2 (List.map Qq o7.Stmt.Facts)]), (11, .cp [.int .i64 o11.Stmt.Kind, .int .i64 o11.Stmt.Var, .int .i64 o11.Stmt.Event, .int .i64 o11.Stmt.Sum.Const, .sl 1 (List.map Qf o11.Stmt.Sum.Coeffs), .int .i64 o11.Stmt.Index.Const, .sl 1 (List.map Qf o11.Stmt.Index.Coeffs), .sl 2 (List.map Qq o11.Stmt.Facts), .int .i64 o11.at_, .sl 1 (List.map Qg o11.kids)]), (12, .cp [.int .i64 o11.Stmt.Kind, .int .i64 o11.Stmt.Var, .int .i64 o11.Stmt.Event, .int .i64 o11.Stmt.Sum.Const, .sl 1 (List.map Qf o11.Stmt.Sum.Coeffs), .int .i64 o11.Stmt.Index.Const, .sl 1 (List.map Qf o11.Stmt.Index.Coeffs), .sl 2 (List.map Qq o11.Stmt.Facts), .int .i64 o11.at_, .sl 1 (List.map Qg o11.kids)]), (13, .cp [.int .i64 o11.Stmt.Kind, .int .i64 o11.Stmt.Var, .int .i64 o11.Stmt.Event, .int .i64 o11.Stmt.Sum.Const, .sl 1 (List.map Qf o11.Stmt.Sum.Coeffs), .int .i64 o11.Stmt.Index.Const, .sl 1 (List.map Qf o11.Stmt.Index.Coeffs), .sl 2 (List.map Qq o11.Stmt.Facts)])], [(1771, .box [.int .i64 (0 : Int), .int .i64 (0 : Int), .int .i64 (0 : Int), .int .i64 (0 : Int), .snil, .int .i64 (0 : Int), .snil, .snil])]⟩ ?_ (fun hS970_7 => ?_)
  ·refine TZ_each [7, 8] (by kernel_rfl) rfl ?_
   refine ⟨?_, ?_⟩
   ·refine ⟨_, rfl, ?_⟩
    refine Qa rfl rfl rfl rfl (Qt ag77 sz77 rfl rfl rfl) ?_
    refine Qe ?_
    refine QU [0, 1, 4, 6, 7, 8, 9, 10, 11, 12, 13, 14] [1771] rfl rfl rfl rfl (by rw [hF]; rfl) ?_
    exact hS970_1
   ·refine ⟨_, rfl, ?_⟩
    refine Xk 1691 z77 rfl rfl rfl rfl rfl rfl rfl ?_
    refine Qe ?_
    refine QU [0, 1, 4, 5, 6, 7, 8, 9, 10, 11, 12, 13] [1691, 1771] rfl rfl rfl rfl (by rw [hF]; rfl) ?_
    exact hS970_5
  refine TZ_each [7, 8, 9] (by kernel_rfl) rfl ?_
  refine ⟨?_, ?_, ?_⟩
  ·refine ⟨_, rfl, ?_⟩
   refine Qa rfl rfl rfl rfl (Qt ag77 sz77 rfl rfl rfl) ?_
   refine Qe ?_
   refine QU [0, 1, 4, 7, 8, 9, 10, 11, 12, 13, 14] [] rfl rfl rfl rfl (by rw [hF]; rfl) ?_
   exact hS970_2
  ·refine ⟨_, rfl, ?_⟩
   refine Xk 1691 z77 rfl rfl rfl rfl rfl rfl rfl ?_
   refine Qe ?_
   refine QU [0, 1, 4, 5, 7, 8, 9, 10, 11, 12, 13] [1691] rfl rfl rfl rfl (by rw [hF]; rfl) ?_
   exact hS970_6
  ·refine ⟨_, rfl, ?_⟩
   refine Xk 1771 z77 rfl rfl rfl rfl rfl rfl rfl ?_
   refine Qe ?_
   refine QU [0, 1, 4, 6, 7, 8, 9, 10, 11, 12, 13] [1771] rfl rfl rfl rfl (by rw [hF]; rfl) ?_
   exact hS970_7
theorem c_impl_sameTree : ∀ (n : Nat) (p0 : Ptree) (p1 : Ptree) (out : Bool), m_impl_sameTree n p0 p1 = some out → ACall Try.prog 104 [Qg p0, Qg p1] [] (.bool out) [] := by
 intro n
 induction n with
 | zero => intro p0 p1 out hm; cases hm
 | succ n ih => intro p0 p1 out hm; exact c_impl_sameTree_F (m_impl_sameTree n) ih p0 p1 out hm
theorem c_impl_absolute (p0 : Int) (out : Int) (hm : m_impl_absolute p0 = some out) : ACall Try.prog 142 [.int .i64 p0] [] (.int .i64 out) [] := by
 refine ACall.intro Try.func142 rfl Try.ntmps142 rfl (fun F hF => ?_)
 unfold m_impl_absolute at hm
 refine Qn ?_
 refine Qc ?_
 refine Qa rfl rfl rfl rfl (Qb rfl) ?_
 refine Qe ?_
 refine Qn ?_
 refine Qc ?_
 refine Qa rfl rfl rfl rfl (Qd rfl) ?_
 refine Qa rfl rfl rfl rfl (Qd rfl) ?_
 refine Qa rfl rfl rfl rfl (op_negW rfl) ?_
 refine Qa rfl rfl rfl rfl (op_max rfl rfl) ?_
 refine Qa rfl rfl rfl rfl (Qb rfl) ?_
 refine Qe ?_
 refine Qo [2] [] rfl rfl rfl rfl (by rw [hF]; rfl) ?_
 refine QB ?_
 obtain rfl := Qw hm
 refine ⟨[_], [], ⟨rfl, trivial⟩, ?_, rfl, rfl, rfl, rfl⟩
 rfl
theorem c_impl_gcd (p0 : List Int) (out : Int) (hm : m_impl_gcd p0 = some out) : ACall Try.prog 130 [.sl 1 (List.map Qf p0)] [] (.int .i64 out) [] := by
 refine ACall.intro Try.func130 rfl Try.ntmps130 rfl (fun F hF => ?_)
 unfold m_impl_gcd at hm
 refine Qn ?_
 refine Qc ?_
 refine Qa rfl rfl rfl rfl (Qb rfl) ?_
 refine Qe ?_
 refine Qn ?_
 refine Qc ?_
 refine Qa rfl rfl rfl rfl (Qb rfl) ?_
 refine Qe ?_
 refine Qn ?_
 refine Qn ?_
 refine Qc ?_
 refine Qa rfl rfl rfl rfl (Qd rfl) ?_
 refine Qa rfl rfl rfl rfl (Xm Try.underlying29 rfl (List.length_map _)) ?_
 refine Xy (fun _ _ _ hr => RelP.slLen (i := 8) rfl hr) (fun hlen9 => ?_)
 rw [List.length_map] at hlen9
 refine Qa rfl rfl rfl rfl (Qd rfl) ?_
 refine Qe ?_
 refine Xd ?_
 refine Qo [3, 8, 9, 10] [] rfl rfl rfl rfl (by rw [hF]; rfl) ?_
 refine T_loop ?_
 obtain ⟨u0, hl0, hm⟩ := Qv hm
 refine TR_forL2 p0 (m_impl_gcd_L0) (fun (s0 : Int) => s0) (fun n0 (s0 : Int) => ⟨[(3, .int .i64 s0), (8, .sl 1 (List.map Qf p0)), (9, .int .i64 (p0.length : Int)), (10, .int .i64 (n0 : Int))], []⟩) (fun u0 => .exit 0) (fun u0 => ⟨[(3, .int .i64 u0)], []⟩) (fun u0 => m_impl_gcd_A0 u0 = some out) hl0 hm (fun u0 hm => ?_) (fun hx0 s0 hm => ?_) (fun hx0 n0 x0 s0 c0 hxn0 hlt0 hm hc0 => ?_)
 ·unfold m_impl_gcd_A0 at hm
  refine Qn ?_
  refine Qc ?_
  refine Qa rfl rfl rfl rfl (Qd rfl) ?_
  refine Qa rfl rfl rfl rfl (Qb rfl) ?_
  refine Qe ?_
  refine Qo [2] [] rfl rfl rfl rfl (by rw [hF]; rfl) ?_
  refine QB ?_
  obtain rfl := Qw hm
  refine ⟨[_], [], ⟨rfl, trivial⟩, ?_, rfl, rfl, rfl, rfl⟩
  rfl
 ·refine Qn ?_
  refine Qc ?_
  refine Qa rfl rfl rfl rfl (op_lss rfl rfl) ?_
  refine Qe ?_
  refine Qn ?_
  refine T_if_false rfl (decide_eq_false (by simp)) ?_
  refine Qo [3] [] rfl rfl rfl rfl (by rw [hF]; rfl) ?_
  refine T_exit ?_
  exact hx0 s0 hm
 ·unfold m_impl_gcd_L0 at hm
  refine Qn ?_
  refine Qc ?_
  refine Qa rfl rfl rfl rfl (op_lss rfl rfl) ?_
  refine Qe ?_
  refine Qn ?_
  refine T_if_true rfl (decide_eq_true (Int.ofNat_lt.2 hlt0)) ?_
  refine QL ?_
  refine Qn ?_
  refine Xd ?_
  refine Qn ?_
  refine Qc ?_
  refine Qa rfl rfl rfl rfl (op_index_sl el29 rfl rfl rfl (get_map hxn0) rfl) ?_
  refine Qa rfl rfl rfl rfl (Qj ag2 rfl rfl) ?_
  refine Qa rfl rfl rfl rfl (Qb rfl) ?_
  refine Qe ?_
  refine Qn ?_
  refine Qc ?_
  refine Qa rfl rfl rfl rfl (Qd rfl) ?_
  refine Qa rfl rfl rfl rfl (Qd rfl) ?_
  obtain ⟨r16, hr16, hm⟩ := Qv hm
  refine QG (c_impl_absolute x0 r16 hr16) Try.call142 rfl rfl rfl rfl rfl ?_
  refine Qa rfl rfl rfl rfl (Qb rfl) ?_
  refine Qa rfl rfl rfl rfl (Qb rfl) ?_
  refine Qe ?_
  refine Qn ?_
  refine Xd ?_
  refine Qo [6, 7, 8, 9, 10] [] rfl rfl rfl rfl (by rw [hF]; rfl) ?_
  refine T_loop ?_
  obtain ⟨u1, hl1, hm⟩ := Qv hm
  refine TR_iter2 (m_impl_gcd_L1) (fun (s1 : Int × Int) => ⟨[(6, .int .i64 s1.1), (7, .int .i64 s1.2), (8, .sl 1 (List.map Qf p0)), (9, .int .i64 (p0.length : Int)), (10, .int .i64 (n0 : Int))], []⟩) (fun u1 => .exit 2) (fun u1 => ⟨[(6, .int .i64 u1), (8, .sl 1 (List.map Qf p0)), (9, .int .i64 (p0.length : Int)), (10, .int .i64 (n0 : Int))], []⟩) (fun u1 => m_impl_gcd_A1 u1 = some c0) hl1 hm (fun u1 hm => ?_) (fun hx1 s1 c1 hm hc1 => ?_)
  ·unfold m_impl_gcd_A1 at hm
   refine Qc ?_
   refine Qa rfl rfl rfl rfl (Qd rfl) ?_
   refine Qa rfl rfl rfl rfl (Qb rfl) ?_
   refine Qe ?_
   refine Qc ?_
   refine Qa rfl rfl rfl rfl (op_addN rfl rfl (Nat.lt_of_lt_of_le hlt0 hlen9)) ?_
   refine Qa rfl rfl rfl rfl (Qd rfl) ?_
   refine Qe ?_
   refine Xw [3, 8, 9, 10] [] rfl rfl rfl rfl (by rw [hF]; rfl) ?_
   obtain rfl := Qw hm
   have hn := Q7 hc0
   exact hn _ rfl
  ·unfold m_impl_gcd_L1 at hm
   refine Qn ?_
   refine Qn ?_
   refine Qc ?_
   refine Qa rfl rfl rfl rfl (Qd rfl) ?_
   refine Qa rfl rfl rfl rfl (op_neq rfl rfl) ?_
   refine Qe ?_
   refine QI rfl (fun hq => ?_) (fun hq => ?_)
   ·replace hm := QO hq hm
    refine QL ?_
    refine Xd ?_
    refine T_drawZ [] mix (by kernel_rfl) rfl ?_
    obtain ⟨q22, hq22, hm⟩ := Qv hm
    refine Ql 0 (by kernel_rfl) rfl rfl rfl rfl rfl (Qd rfl) ?_
    refine Ql 1 (by kernel_rfl) rfl rfl rfl rfl rfl (Qd rfl) ?_
    refine Ql 2 (by kernel_rfl) rfl rfl rfl rfl rfl (Qd rfl) ?_
    refine Ql 3 (by kernel_rfl) rfl rfl rfl rfl rfl (op_remT rfl rfl hq22) ?_
    refine Ql 4 (by kernel_rfl) rfl rfl rfl rfl rfl (Qb rfl) ?_
    refine Ql 5 (by kernel_rfl) rfl rfl rfl rfl rfl (Qb rfl) ?_
    refine Q8 (by kernel_rfl) ?_
    refine Xw [6, 7, 8, 9, 10] [] rfl rfl rfl rfl (by rw [hF]; rfl) ?_
    obtain rfl := Qw hm
    have hn := Q7 hc1
    exact hn _ rfl
   ·replace hm := QM hq hm
    refine Qo [6, 8, 9, 10] [] rfl rfl rfl rfl (by rw [hF]; rfl) ?_
    refine T_exit ?_
    obtain rfl := Qw hm
    have hn := Xv hc1
    exact hx1 s1.1 hn
theorem c_impl_Term_isVariable (p0 : Term) (p1 : Int) (out : Bool) (hm : m_impl_Term_isVariable p0 p1 = some out) : ACall Try.prog 105 [.agg [.int .i64 p0.Const, .sl 1 (List.map Qf p0.Coeffs)], .int .i64 p1] [] (.bool out) [] := by
 refine ACall.intro Try.func105 rfl Try.ntmps105 rfl (fun F hF => ?_)
 unfold m_impl_Term_isVariable at hm
 refine Qn ?_
 refine Qc ?_
 refine TL_box 11 rfl rfl rfl rfl rfl rfl rfl ?_
 refine Qa rfl rfl rfl rfl (Qb rfl) ?_
 refine Qe ?_
 refine Qn ?_
 refine Qn ?_
 refine Qc ?_
 refine Qa rfl rfl rfl rfl (Qi fa75_0 rfl rfl) ?_
 refine Qa rfl rfl rfl rfl (Qj ag2 rfl rfl) ?_
 refine Qa rfl rfl rfl rfl (op_neq rfl rfl) ?_
 refine Qa rfl rfl rfl rfl (Qd rfl) ?_
 refine Xb 7 (fun _ : Unit => ⟨[(1, .int .i64 p1), (2, .ptr 11 0 0), (15, .bool ((!decide (p0.Const = (0 : Int))) || (!decide ((p0.Coeffs.length : Int) = (w64 (p1 + (1 : Int)))))))], [(11, .box [.int .i64 p0.Const, .sl 1 (List.map Qf p0.Coeffs)])]⟩) (fun _ => True) (fun _ _ => ?_) (fun hjj => ?_)
 ·refine Qa rfl rfl rfl rfl (Qd rfl) ?_
  refine Qy 16 rfl rfl rfl (fun hq => ?_) (fun hq => ?_)
  ·replace hm := QO hq hm
   refine Qh rfl rfl rfl rfl rfl rfl rfl ?_
   refine Qh rfl rfl rfl rfl rfl rfl rfl ?_
   refine Qh rfl rfl rfl rfl rfl rfl rfl ?_
   refine Qh rfl rfl rfl rfl rfl rfl rfl ?_
   refine Qh rfl rfl rfl rfl rfl rfl rfl ?_
   refine Qh rfl rfl rfl rfl rfl rfl rfl ?_
   refine Qa rfl rfl rfl rfl (Qp rfl rfl) ?_
   refine Qe ?_
   refine T_cond_true rfl ?_
   refine Qn ?_
   refine Qc ?_
   refine Qa rfl rfl rfl rfl (Qb rfl) ?_
   refine Qe ?_
   refine Qo [4] [] rfl rfl rfl rfl (by rw [hF]; rfl) ?_
   refine QB ?_
   obtain rfl := Qw hm
   refine ⟨[_], [], ⟨rfl, trivial⟩, ?_, rfl, rfl, rfl, rfl⟩
   rfl
  ·replace hm := QM hq hm
   refine Qm rfl rfl ?_
   refine Qa rfl rfl rfl rfl (Qi fa75_1 rfl rfl) ?_
   refine Qm rfl rfl ?_
   refine Qa rfl rfl rfl rfl (Qj ag29 rfl rfl) ?_
   refine Qm rfl rfl ?_
   refine Qa rfl rfl rfl rfl (Qd rfl) ?_
   refine Qm rfl rfl ?_
   obtain ⟨x20, hx20, hm⟩ := Qv hm
   refine Qa rfl rfl rfl rfl (Xi el29 rfl rfl hx20 rfl) ?_
   refine Qm rfl rfl ?_
   refine Qa rfl rfl rfl rfl (Qj ag2 rfl rfl) ?_
   refine Qm rfl rfl ?_
   refine Qa rfl rfl rfl rfl (op_neq rfl rfl) ?_
   refine Qa rfl rfl rfl rfl (Qk rfl rfl) ?_
   refine Qe ?_
   refine QI rfl (fun hq => ?_) (fun hq => ?_)
   ·replace hm := QO hq hm
    refine Qn ?_
    refine Qc ?_
    refine Qa rfl rfl rfl rfl (Qb rfl) ?_
    refine Qe ?_
    refine Qo [4] [] rfl rfl rfl rfl (by rw [hF]; rfl) ?_
    refine QB ?_
    obtain rfl := Qw hm
    refine ⟨[_], [], ⟨rfl, trivial⟩, ?_, rfl, rfl, rfl, rfl⟩
    rfl
   ·replace hm := QM hq hm
    refine QL ?_
    refine Qn ?_
    refine Qc ?_
    refine Qa rfl rfl rfl rfl (Qi fa75_1 rfl rfl) ?_
    refine Qa rfl rfl rfl rfl (Qj ag29 rfl rfl) ?_
    refine Qa rfl rfl rfl rfl (Qd rfl) ?_
    obtain ⟨y27, hy27, hm⟩ := Qv hm
    refine Qa rfl rfl rfl rfl (op_sliceI el29 rfl ⟨rfl, ⟨_, rfl⟩⟩ hy27) ?_
    obtain ⟨r28, hr28, hm⟩ := Qv hm
    refine QG (c_impl_gcd y27 r28 hr28) Try.call130 rfl rfl rfl rfl rfl ?_
    refine Qa rfl rfl rfl rfl (Xq rfl rfl) ?_
    refine Qa rfl rfl rfl rfl (Qb rfl) ?_
    refine Qe ?_
    refine Qo [4] [] rfl rfl rfl rfl (by rw [hF]; rfl) ?_
    refine QB ?_
    obtain rfl := Qw hm
    refine ⟨[_], [], ⟨rfl, trivial⟩, ?_, rfl, rfl, rfl, rfl⟩
    rfl
 ·refine Qy 8 rfl rfl rfl (fun hq => ?_) (fun hq => ?_)
  ·refine Qh rfl rfl rfl rfl rfl rfl rfl ?_
   refine Qh rfl rfl rfl rfl rfl rfl rfl ?_
   refine Qh rfl rfl rfl rfl rfl rfl rfl ?_
   refine Qh rfl rfl rfl rfl rfl rfl rfl ?_
   refine Qh rfl rfl rfl rfl rfl rfl rfl ?_
   refine Qh rfl rfl rfl rfl rfl rfl rfl ?_
   refine Qa rfl rfl rfl rfl (Qp rfl rfl) ?_
   refine Qx [1, 2, 15] [11] rfl rfl rfl rfl (by rw [hF]; rfl) ?_
   exact QA _ (by first | (rw [hq, Bool.true_or]; done) | (rw [hq]; rfl)) (hjj () trivial)
  ·refine Qm rfl rfl ?_
   refine Qa rfl rfl rfl rfl (Qi fa75_1 rfl rfl) ?_
   refine Qm rfl rfl ?_
   refine Qa rfl rfl rfl rfl (Qj ag29 rfl rfl) ?_
   refine Qm rfl rfl ?_
   refine Qa rfl rfl rfl rfl (Xm Try.underlying29 rfl (List.length_map _)) ?_
   refine Xy (fun _ _ _ hr => RelP.slLen (i := 10) rfl hr) (fun hlen11 => ?_)
   rw [List.length_map] at hlen11
   refine Qm rfl rfl ?_
   refine Qa rfl rfl rfl rfl (Qd rfl) ?_
   refine Qm rfl rfl ?_
   refine Qa rfl rfl rfl rfl (op_addW rfl rfl) ?_
   refine Qm rfl rfl ?_
   refine Qa rfl rfl rfl rfl (op_neq rfl rfl) ?_
   refine Qa rfl rfl rfl rfl (Qk rfl rfl) ?_
   refine Qx [1, 2, 15] [11] rfl rfl rfl rfl (by rw [hF]; rfl) ?_
   exact QA _ (by first | (rw [hq, Bool.false_or]; done) | (rw [hq]; rfl)) (hjj () trivial)
end Go.Mod
