/- The fixed calls; the statement about forms. -/
import Derived.Test.YtdifmcdgnbnhiaaDoorAG1
set_option linter.unusedVariables false
set_option linter.unusedSimpArgs false
namespace Go.Proofs.YtdifmcdgnbnhiaaDoor
namespace AE
open Go

theorem ok1 : okF f1 = true := (okF_iff _).2 ⟨by simp [f1, Fun.nodes, Fun.nodesL], by simp [f1, Fun.depth, Fun.depthL], by simp [f1, shapedF, shapedL, arityF, mostF, Int.min_def]⟩
theorem ok2 : okF (.mk 0 0 []) = true := (okF_iff _).2 ⟨by simp [Fun.nodes, Fun.nodesL], by simp [Fun.depth, Fun.depthL], by simp [shapedF, shapedL, arityF, mostF, Int.min_def]⟩
theorem ok4 : okF (.mk 3 0 [.mk 1 0 [], .mk 0 0 []]) = false := by
  rw [Bool.eq_false_iff, ne_eq, okF_iff]
  simp [shapedF, shapedL, arityF, mostF, Int.min_def]
theorem t1 : textF f1 true = [49, 32, 43, 32, 40, 51, 32, 42, 32, 88, 41] := by simp [f1, textF, digs]
theorem h1 : hasK (fun k => decide (5 ≤ k)) f1 = false := by simp [f1, hasK_eq]
theorem n1 : f1.nodes ≤ 1000000 := by simp [f1, Fun.nodes, Fun.nodesL]
theorem q1 : parseF 9 s1 = (f1, 0) := by rw [parseF, if_neg (by simp [s1]), p1]; simp [ok1]
theorem q2 : parseF 9 s2 = (.mk 0 0 [], 0) := by rw [parseF, if_neg (by simp [s2]), p2]; simp [ok2]
theorem q3 : parseF 9 s3 = (zeroF, 11) := by rw [parseF, if_neg (by simp [s3]), p3]; simp [dropC]
theorem q4 : parseF 9 s4 = (zeroF, 10) := by rw [parseF, if_neg (by simp [s4]), p4]; simp [ok4]
theorem l1 : s1.length < 19 := by decide
theorem l2 : s2.length < 19 := by decide
theorem l3 : s3.length < 19 := by decide
theorem l4 : s4.length < 19 := by decide
set_option maxHeartbeats 2000000 in
theorem ev_Same0 (m : Mem) : evCall C0 14 [.agg [.int .i64 0, .int .i64 0, .isl false 0 []], .agg [.int .i64 0, .int .i64 0, .nils]] m = some (.ret (.bool true), m) := by
  rw [evCall_body C0 (C0_ext _) (by rw [C0_P]; exact Tryd.func14) rfl (by rw [C0_ann]; rfl) (by decide) (by simp [Tryd.f14])]
  simp [Tryd.f14, evOps_cons, wantA_some, argsTm, ann_keep_14, ann_recov_14, ann_reg_14, reg14, ann_loop_14, loop14, headId, endRound_L, endRound_S, ann_draw_14, draw14, ann_dok_14, dok14, evDraw_cons, drawEnd, chkNeed, kindS, isEff]
  rw [evCode_loop]
  simp [round, Tryd.f14, evOps_cons, wantA_some, argsTm, ann_keep_14, ann_recov_14, ann_reg_14, reg14, ann_loop_14, loop14, headId, endRound_L, endRound_S, ann_draw_14, draw14, ann_dok_14, dok14, evDraw_cons, drawEnd, chkNeed, kindS, isEff]
set_option maxHeartbeats 2000000 in
theorem ev_awake (m : Mem) : evCall C0 8 [] m = some (.ret (.bool true), m) := by
  rw [evCall_body C0 (C0_ext _) (by rw [C0_P]; exact Tryd.func8) rfl (by rw [C0_ann]; rfl) (by decide) (by simp [Tryd.f8])]
  have a1 := ev_Parse 9 s1 [] f1 (Sm_short l1) p1 n1
  have a2 := ev_Parse 9 s2 [] (.mk 0 0 []) (Sm_short l2) p2 (by simp [Fun.nodes, Fun.nodesL])
  have a3 := ev_Parse 9 s3 _ _ (Sm_short l3) p3 (by simp [Fun.nodes, Fun.nodesL])
  have a4 := ev_Parse 9 s4 _ _ (Sm_short l4) p4 (by simp [Fun.nodes, Fun.nodesL])
  have a5 := ev_String f1 n1
  have a6 := ev_Poly f1 (by have := n1; omega)
  simp only [q1, q2, q3, q4, ok1, t1, h1, if_true] at a1 a2 a3 a4 a5 a6
  simp only [s1, s2, s3, s4] at a1 a2 a3 a4
  simp [f1, zeroF] at a1 a2 a3 a4 a5 a6
  simp [Tryd.f8, evOps_cons, wantA_some, argsTm, ann_keep_8, ann_recov_8, ann_reg_8, reg8, a1, a2, a3, a4, a5, a6, ev_Same0]

theorem few_iff (f : Fun) : decide (0 < leftF f 2001) = decide (f.nodes ≤ 2000) := by
  rw [leftF_nodes f 2001 (by omega), Bool.eq_iff_iff]
  simp only [decide_eq_true_eq]
  omega
set_option maxHeartbeats 4000000 in
/-- The statement about forms returns true. -/
theorem ev_Forms (f g : Fun) (m : Mem) : evCall C0 6 [.agg f.cells, .agg g.cells] m = some (.ret (.bool true), m) := by
  rw [evCall_body C0 (C0_ext _) (by rw [C0_P]; exact Tryd.func6) rfl (by rw [C0_ann]; rfl) (by decide) (by simp [Tryd.f6])]
  have b1 := ev_Few f 2000
  have b2 := ev_Few g 2000
  simp only [show (2000 : Int) + 1 = 2001 from rfl, few_iff] at b1 b2
  simp at b1 b2
  by_cases hf : f.nodes ≤ 2000
  case neg =>
    simp [hf] at b1
    simp [Tryd.f6, evOps_cons, wantA_some, argsTm, ann_keep_6, ann_recov_6, ann_reg_6, reg6, ann_draw_6, draw6, ann_dok_6, dok6, evDraw_cons, drawEnd, chkNeed, kindS, isEff, b1, ev_awake]
  by_cases hg : g.nodes ≤ 2000
  case neg =>
    simp [hf] at b1
    simp [hg] at b2
    simp [Tryd.f6, evOps_cons, wantA_some, argsTm, ann_keep_6, ann_recov_6, ann_reg_6, reg6, ann_draw_6, draw6, ann_dok_6, dok6, evDraw_cons, drawEnd, chkNeed, kindS, isEff, b1, b2, ev_awake]
  simp [hf] at b1
  simp [hg] at b2
  have b3 := ev_Size f.nodes f (Nat.le_refl _) (by omega)
  have b4 := ev_RSize f.nodes f (Nat.le_refl _) (by omega)
  have b5 := ev_Poly f (by omega)
  have b6 := ev_Plain f (by omega)
  have b7 := ev_fault f (by omega)
  have b8 := ev_Check f (by omega)
  have b9 := ev_Same f.nodes f g (Nat.le_refl _) (by omega)
  have b10 := ev_RSame f.nodes f g (Nat.le_refl _) (by omega)
  have b11 := ev_Copy f.nodes f (Nat.le_refl _) (by omega)
  have b12 := ev_Same f.nodes f f (Nat.le_refl _) (by omega)
  have b13 := ev_RPoly f (by omega)
  have b14 := ev_RPlain f (by omega)
  rw [isF_okF] at b7
  rw [(sameF_iff f f).2 rfl] at b12
  simp at b3 b4 b5 b6 b7 b8 b9 b10 b11 b12 b13 b14
  cases hok : okF f with
  | false =>
    simp [hok] at b5 b6 b7 b8
    simp [Tryd.f6, evOps_cons, wantA_some, argsTm, ann_keep_6, ann_recov_6, ann_reg_6, reg6, ann_draw_6, draw6, ann_dok_6, dok6, evDraw_cons, drawEnd, chkNeed, kindS, isEff, b1, b2, b3, b4, b5, b6, b7, b8, b9, b10, b11, b12, ev_awake]
  | true =>
    have hsh := okF_shaped hok
    have e1 := poly_same hsh
    have e2 := plain_same hsh
    simp [hok] at b5 b6 b7 b8
    simp [Tryd.f6, evOps_cons, wantA_some, argsTm, ann_keep_6, ann_recov_6, ann_reg_6, reg6, ann_draw_6, draw6, ann_dok_6, dok6, evDraw_cons, drawEnd, chkNeed, kindS, isEff, b1, b2, b3, b4, b5, b6, b7, b8, b9, b10, b11, b12, b13, b14, ev_awake, e1, e2]
end AE
end Go.Proofs.YtdifmcdgnbnhiaaDoor
