/- Values copied; equal values; the order's statement. Printed in part by mkV3.py. -/
import Derived.Test.YthoomlenmgdebaaGreatDoorV2
set_option linter.unusedVariables false
set_option linter.unusedSimpArgs false
namespace Go.Proofs.YthoomlenmgdebaaGreatDoor
namespace AE
open Go

set_option maxHeartbeats 2000000 in
theorem ev_SameInts (f1 f2 : Bool) (a b : List Int) (ha : a.length ≤ 1000000000) (m : Mem) : evCall C0 22 [.isl f1 a.length (ints a), .isl f2 b.length (ints b)] m = some (.ret (.bool (decide (a = b))), m) := by
  rw [evCall_body C0 (C0_ext _ (by decide)) (by rw [C0_P]; exact Tryz.func22) rfl (by rw [C0_ann]; rfl) (by decide) (by simp [Tryz.f22])]
  by_cases hl : a.length = b.length
  case neg =>
    have hl' : ¬ (a.length : Int) = b.length := by omega
    have hne : ¬ a = b := fun e => hl (by rw [e])
    simp [Tryz.f22, evOps_cons, wantA_some, argsTm, ann_keep_22, ann_recov_22, ann_reg_22, reg22, ann_loop_22, loop22, headId, endRound_L, endRound_S, ann_draw_22, draw22, ann_dok_22, dok22, evDraw_cons, drawEnd, chkNeed, kindS, isEff, hl', hne]
  have hl' : (a.length : Int) = b.length := by omega
  simp [Tryz.f22, evOps_cons, wantA_some, argsTm, ann_keep_22, ann_recov_22, ann_reg_22, reg22, ann_loop_22, loop22, headId, endRound_L, endRound_S, ann_draw_22, draw22, ann_dok_22, dok22, evDraw_cons, drawEnd, chkNeed, kindS, isEff, eq_true hl']
  refine loop_in (fun i : Nat => ⟨[(0, .isl f1 a.length (ints a)), (1, .isl f2 b.length (ints b)), (12, .int .i64 a.length), (13, .int .i64 i)], m⟩)
    (fun i => some (.ret (.bool (decide (a.drop i = b.drop i))), m)) (fun i => a.length - i) (fun i => i ≤ a.length) 0 ?_ ?_ ?_ ?_ ?_
  · simp
  · simp
  · simp
  · intro x; simp [Tryz.f22, evOps_cons, wantA_some, argsTm, ann_keep_22, ann_recov_22, ann_reg_22, reg22, ann_loop_22, loop22, headId, endRound_L, endRound_S, ann_draw_22, draw22, ann_dok_22, dok22, evDraw_cons, drawEnd, chkNeed, kindS, isEff]
  · intro i hi hrec
    by_cases hlt : i < a.length
    · have w2 : IntKind.i64.wrap (i + 1) = i + 1 := wrap_id _ (by omega)
      have hlt' : i < b.length := by omega
      have h3 : i + 1 ≤ a.length := by omega
      have h3' : i + 1 ≤ b.length := by omega
      have hd : (a.drop i = b.drop i) ↔ (a[i] = b[i] ∧ a.drop (i + 1) = b.drop (i + 1)) := by rw [List.drop_eq_getElem_cons hlt, List.drop_eq_getElem_cons hlt', List.cons.injEq]
      by_cases hc : a[i] = b[i]
      · simp [round, Tryz.f22, evOps_cons, wantA_some, argsTm, ann_keep_22, ann_recov_22, ann_reg_22, reg22, ann_loop_22, loop22, headId, endRound_L, endRound_S, ann_draw_22, draw22, ann_dok_22, dok22, evDraw_cons, drawEnd, chkNeed, kindS, isEff, hlt, hlt', w2, h3, h3', ints_at hlt, ints_at hlt', eq_true hc, endRound_M0]
        refine hrec (i + 1) _ _ ?_ ?_ ?_ ?_
        · omega
        · omega
        · simp
        · simp [hd, hc]
      · simp [round, Tryz.f22, evOps_cons, wantA_some, argsTm, ann_keep_22, ann_recov_22, ann_reg_22, reg22, ann_loop_22, loop22, headId, endRound_L, endRound_S, ann_draw_22, draw22, ann_dok_22, dok22, evDraw_cons, drawEnd, chkNeed, kindS, isEff, hlt, hlt', w2, h3, h3', ints_at hlt, ints_at hlt', hc, hd]
    · clear hrec
      have h5 : a.drop i = [] := List.drop_eq_nil_of_le (by omega)
      have h6 : b.drop i = [] := List.drop_eq_nil_of_le (by omega)
      simp [round, Tryz.f22, evOps_cons, wantA_some, argsTm, ann_keep_22, ann_recov_22, ann_reg_22, reg22, ann_loop_22, loop22, headId, endRound_L, endRound_S, ann_draw_22, draw22, ann_dok_22, dok22, evDraw_cons, drawEnd, chkNeed, kindS, isEff, hlt, h5, h6]

theorem cmpL_len {l r : List Val} (h : ¬ l.length = r.length) : ¬ cmpL l r = 0 := fun e => h (by rw [(cmpL_zero l r).1 e])
set_option maxHeartbeats 2000000 in
theorem ev_left0 (m : Mem) : evCall C0 60 [.agg [.int .i64 0, .int .i64 0, .nils], .int .i64 101] m = some (.ret (.int .i64 100), m) := by
  rw [evCall_body C0 (C0_ext _ (by decide)) (by rw [C0_P]; exact Tryz.func60) rfl (by rw [C0_ann]; rfl) (by decide) (by simp [Tryz.f60])]
  have w1 : IntKind.i64.wrap 100 = 100 := wrap_id _ (by omega)
  simp [Tryz.f60, evOps_cons, wantA_some, argsTm, ann_keep_60, ann_recov_60, ann_reg_60, reg60, ann_loop_60, loop60, headId, endRound_L, endRound_S, w1]
  rw [evCode_loop]
  simp [round, Tryz.f60, evOps_cons, wantA_some, argsTm, ann_keep_60, ann_recov_60, ann_reg_60, reg60, ann_loop_60, loop60, headId, endRound_L, endRound_S]
  rfl
theorem ev_Few0 (m : Mem) : evCall C0 29 [.agg [.int .i64 0, .int .i64 0, .nils], .int .i64 100] m = some (.ret (.bool true), m) := by
  rw [evCall_body C0 (C0_ext _ (by decide)) (by rw [C0_P]; exact Tryz.func29) rfl (by rw [C0_ann]; rfl) (by decide) (by simp [Tryz.f29])]
  have w1 : IntKind.i64.wrap 101 = 101 := wrap_id _ (by omega)
  simp [Tryz.f29, evOps_cons, wantA_some, argsTm, ann_keep_29, ann_recov_29, ann_reg_29, reg29, w1, ev_left0]
set_option maxHeartbeats 2000000 in
theorem ev_few0 (fl : Bool) (l : List Val) (hl : l.length ≤ 1000) (m : Mem) : evCall C0 8 [.agg [.int .i64 0, .int .i64 0, .nils], .isl fl l.length (Val.cellsL l)] m = some (.ret (.bool (l.all fun v => fewV v 3000)), m) := by
  rw [evCall_body C0 (C0_ext _ (by decide)) (by rw [C0_P]; exact Tryz.func8) rfl (by rw [C0_ann]; rfl) (by decide) (by simp [Tryz.f8])]
  simp [Tryz.f8, evOps_cons, wantA_some, argsTm, ann_keep_8, ann_recov_8, ann_reg_8, reg8, ann_loop_8, loop8, headId, endRound_L, endRound_S]
  refine loop_in (fun i : Nat => ⟨[(2, .ptr m.bx.length 0), (7, .isl fl l.length (Val.cellsL l)), (8, .int .i64 l.length), (9, .int .i64 i)], ⟨m.bx ++ [[.int .i64 0, .int .i64 0, .nils]], m.rw⟩⟩)
    (fun i => some (.ret (.bool ((l.drop i).all fun v => fewV v 3000)), m)) (fun i => l.length - i) (fun i => i ≤ l.length) 0 ?_ ?_ ?_ ?_ ?_
  · simp
  · simp
  · simp
  · intro x; simp [Tryz.f8, evOps_cons, wantA_some, argsTm, ann_keep_8, ann_recov_8, ann_reg_8, reg8, ann_loop_8, loop8, headId, endRound_L, endRound_S]
  · intro i hi hrec
    by_cases hlt : i < l.length
    · have w2 : IntKind.i64.wrap (i + 1) = i + 1 := wrap_id _ (by omega)
      have he := ev_FewV l[i] 3000
      simp at he
      have h3 : (i + 1) * 3 ≤ l.length * 3 := by omega
      rw [List.drop_eq_getElem_cons hlt, List.all_cons]
      cases hc : fewV l[i] 3000
      · simp [hc] at he
        simp [round, Tryz.f8, evOps_cons, wantA_some, argsTm, ann_keep_8, ann_recov_8, ann_reg_8, reg8, ann_loop_8, loop8, headId, endRound_L, endRound_S, hlt, w2, h3, he]
      · simp [hc] at he
        simp [round, Tryz.f8, evOps_cons, wantA_some, argsTm, ann_keep_8, ann_recov_8, ann_reg_8, reg8, ann_loop_8, loop8, headId, endRound_L, endRound_S, hlt, w2, h3, he, endRound_M]
        refine hrec (i + 1) _ _ ?_ ?_ ?_ ?_
        · omega
        · omega
        · simp
        · simp
    · clear hrec
      simp [round, Tryz.f8, evOps_cons, wantA_some, argsTm, ann_keep_8, ann_recov_8, ann_reg_8, reg8, ann_loop_8, loop8, headId, endRound_L, endRound_S, hlt, ev_Few0]
      rw [List.drop_eq_nil_of_le (by omega)]
      simp

end AE
end Go.Proofs.YthoomlenmgdebaaGreatDoor
