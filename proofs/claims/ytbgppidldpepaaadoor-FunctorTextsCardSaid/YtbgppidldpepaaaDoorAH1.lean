/- The fixed calls; the statement about forms. -/
import Derived.Test.YtbgppidldpepaaaDoorAG1
set_option linter.unusedVariables false
set_option linter.unusedSimpArgs false
namespace Go.Proofs.YtbgppidldpepaaaDoor
namespace AE
open Go

theorem ok1 : okF f1 = true := (okF_iff _).2 ⟨by simp [f1, Fun.nodes, Fun.nodesL], by simp [f1, Fun.depth, Fun.depthL], by simp [f1, shapedF, shapedL, arityF, mostF, Int.min_def]⟩
theorem ok2 : okF (.mk 0 0 []) = true := (okF_iff _).2 ⟨by simp [Fun.nodes, Fun.nodesL], by simp [Fun.depth, Fun.depthL], by simp [shapedF, shapedL, arityF, mostF, Int.min_def]⟩
theorem ok4 : okF (.mk 3 0 [.mk 1 0 [], .mk 0 0 []]) = false := by
  rw [Bool.eq_false_iff, ne_eq, okF_iff]
  simp [shapedF, shapedL, arityF, mostF, Int.min_def]
theorem t1 : textF f1 true = [49, 32, 43, 32, 40, 51, 32, 42, 32, 88, 41] := by simp [f1, textF, digs]
theorem h1 : hasK (fun k => decide (5 ≤ k)) f1 = false := by simp [f1, hasK_eq]
theorem n1 : f1.nodes ≤ 1000000 := by simp [f1, Fun.nodes, Fun.nodesL]
theorem q1 : parseF 9 s1 = (f1, 0) := by rw [parseF, if_neg (by simp [s1]), p1]; simp [ok1]
theorem q2 : parseF 9 s2 = (.mk 0 0 [], 0) := by rw [parseF, if_neg (by simp [s2]), p2]; simp [ok2]
theorem q3 : parseF 9 s3 = (zeroF, 11) := by rw [parseF, if_neg (by simp [s3]), p3]; simp [dropC]
theorem q4 : parseF 9 s4 = (zeroF, 10) := by rw [parseF, if_neg (by simp [s4]), p4]; simp [ok4]
theorem l1 : s1.length < 19 := by decide
theorem l2 : s2.length < 19 := by decide
theorem l3 : s3.length < 19 := by decide
theorem l4 : s4.length < 19 := by decide
set_option maxHeartbeats 2000000 in
theorem ev_Same0 (m : Mem) : evCall C0 11 [.agg [.int .i64 0, .int .i64 0, .isl false 0 []], .agg [.int .i64 0, .int .i64 0, .nils]] m = some (.ret (.bool true), m) := by
  rw [evCall_body C0 (C0_ext _ (by decide)) (by rw [C0_P]; exact Tryd.func11) rfl (by rw [C0_ann]; rfl) (by decide) (by simp [Tryd.f11])]
  simp [Tryd.f11, evOps_cons, wantA_some, argsTm, ann_keep_11, ann_recov_11, ann_reg_11, reg11, ann_loop_11, loop11, headId, endRound_L, endRound_S, ann_draw_11, draw11, ann_dok_11, dok11, evDraw_cons, drawEnd, chkNeed, kindS, isEff]
  rw [evCode_loop]
  simp [round, Tryd.f11, evOps_cons, wantA_some, argsTm, ann_keep_11, ann_recov_11, ann_reg_11, reg11, ann_loop_11, loop11, headId, endRound_L, endRound_S, ann_draw_11, draw11, ann_dok_11, dok11, evDraw_cons, drawEnd, chkNeed, kindS, isEff]
set_option maxHeartbeats 2000000 in
theorem ev_awake (m : Mem) : evCall C0 5 [] m = some (.ret (.bool true), m) := by
  rw [evCall_body C0 (C0_ext _ (by decide)) (by rw [C0_P]; exact Tryd.func5) rfl (by rw [C0_ann]; rfl) (by decide) (by simp [Tryd.f5])]
  have a1 := ev_Parse 9 s1 (Sm_short l1) (by decide)
  have a2 := ev_Parse 9 s2 (Sm_short l2) (by decide)
  have a3 := ev_Parse 9 s3 (Sm_short l3) (by decide)
  have a4 := ev_Parse 9 s4 (Sm_short l4) (by decide)
  have a5 := ev_String f1 n1
  have a6 := ev_Poly f1 (by have := n1; omega)
  simp only [q1, q2, q3, q4, ok1, t1, h1, if_true] at a1 a2 a3 a4 a5 a6
  simp only [s1, s2, s3, s4] at a1 a2 a3 a4
  simp [f1, zeroF] at a1 a2 a3 a4 a5 a6
  simp [Tryd.f5, evOps_cons, wantA_some, argsTm, ann_keep_5, ann_recov_5, ann_reg_5, reg5, a1, a2, a3, a4, a5, a6, ev_Same0]

theorem few_iff (f : Fun) : decide (0 < leftF f 2001) = decide (f.nodes ≤ 2000) := by
  rw [leftF_nodes f 2001 (by omega), Bool.eq_iff_iff]
  simp only [decide_eq_true_eq]
  omega
end AE
end Go.Proofs.YtbgppidldpepaaaDoor
