/- Values copied; equal values; the order's statement. Printed in part by mkV3.py. -/
import Derived.Test.YtbgbajadhlhnmaaGreatDoorV2
set_option linter.unusedVariables false
set_option linter.unusedSimpArgs false
namespace Go.Proofs.YtbgbajadhlhnmaaGreatDoor
namespace AE
open Go

set_option maxHeartbeats 4000000 in
theorem ev_VCopy (N : Nat) : ∀ (f : Val), f.nodes ≤ N → f.nodes ≤ 1000000000 → slimV f → ∀ (m : Mem), evCall C0 21 [.agg f.cells] m = some (.ret (.agg f.cells), m) := by
  induction N with
  | zero => intro f hN; have := f.nodes_pos; omega
  | succ N ih =>
  intro f hN hb hs m
  rw [slimV_eq] at hs
  rw [evCall_body C0 (C0_ext _ (by decide)) (by rw [C0_P]; exact Tryz.func21) rfl (by rw [C0_ann]; rfl) (by decide) (by simp [Tryz.f21])]
  have hlen := f.length_args
  by_cases hw : f.ws = []
  · skip
    simp [Tryz.f21, evOps_cons, wantA_some, argsTm, ann_keep_21, ann_recov_21, ann_reg_21, reg21, ann_loop_21, loop21, headId, endRound_L, endRound_S, ann_draw_21, draw21, ann_dok_21, dok21, evDraw_cons, drawEnd, chkNeed, kindS, isEff, hw]
    by_cases h0 : 0 < f.args.length
    case neg =>
      have : f.args = [] := List.eq_nil_of_length_eq_zero (by omega)
      rw [evCode_loop]
      simp [round, Tryz.f21, evOps_cons, wantA_some, argsTm, ann_keep_21, ann_recov_21, ann_reg_21, reg21, ann_loop_21, loop21, headId, endRound_L, endRound_S, ann_draw_21, draw21, ann_dok_21, dok21, evDraw_cons, drawEnd, chkNeed, kindS, isEff, this, hw]
    have he0 := ih f.args[0] (by have := Val.nodes_arg (List.getElem_mem h0); omega) (by have := Val.nodes_arg (List.getElem_mem h0); omega) (slimL_mem hs.2 (List.getElem_mem h0))
    simp at he0
    rw [evCode_loop]
    have h3 : 3 ≤ f.args.length * 3 := by omega
    have g3 := Val.at_cellsL f.args 0 h0
    simp at g3
    simp [round, Tryz.f21, evOps_cons, wantA_some, argsTm, ann_keep_21, ann_recov_21, ann_reg_21, reg21, ann_loop_21, loop21, headId, endRound_L, endRound_S, ann_draw_21, draw21, ann_dok_21, dok21, evDraw_cons, drawEnd, chkNeed, kindS, isEff, h0, he0, h3, g3, endRound_R0, hw]
    refine loop_in (fun i : Nat => ⟨[(2, .ptr (m.bx.length + 1) 0), (3, .ptr (m.bx.length + 2) 0), (13, .isl false f.args.length (Val.cellsL f.args)), (14, .int .i64 f.args.length), (15, .int .i64 i)],
      ⟨m.bx ++ [f.cells, [.int .i64 0, .nils, .nils], [.int .i64 f.num, .sl (m.rw.length + 0) (i * 3) 0 i, .nils]], m.rw ++ [⟨28, Val.cellsL (f.args.take i)⟩]⟩⟩)
      (fun i => some (.ret (.agg f.cells), m)) (fun i => f.args.length - i) (fun i => 0 < i ∧ i ≤ f.args.length) 1 ?_ ?_ ?_ ?_ ?_
    · have : f.args.take 1 = [f.args[0]] := by rw [List.take_succ_eq_append_getElem h0]; simp
      simp [this, Val.cellsL, hw]
    · simp [hw]
    · omega
    · intro x; simp [Tryz.f21, evOps_cons, wantA_some, argsTm, ann_keep_21, ann_recov_21, ann_reg_21, reg21, ann_loop_21, loop21, headId, endRound_L, endRound_S, ann_draw_21, draw21, ann_dok_21, dok21, evDraw_cons, drawEnd, chkNeed, kindS, isEff]
    · rintro i ⟨hi0, hi⟩ hrec
      have hmin : min i f.args.length = i := by omega
      by_cases hlt : i < f.args.length
      · have w2 : IntKind.i64.wrap (i + 1) = i + 1 := wrap_id _ (by omega)
        have hmem := Val.nodes_arg (List.getElem_mem hlt)
        have he := ih f.args[i] (by omega) (by omega) (slimL_mem hs.2 (List.getElem_mem hlt))
        simp at he
        clear ih
        have h3 : (i + 1) * 3 ≤ f.args.length * 3 := by omega
        have h4 : (i + 1) * 56 ≤ 70368744177664 := by omega
        have h5 : i + 1 ≤ 70368744177664 := by omega
        simp [round, Tryz.f21, evOps_cons, wantA_some, argsTm, ann_keep_21, ann_recov_21, ann_reg_21, reg21, ann_loop_21, loop21, headId, endRound_L, endRound_S, ann_draw_21, draw21, ann_dok_21, dok21, evDraw_cons, drawEnd, chkNeed, kindS, isEff, hlt, w2, h3, h4, h5, he, hmin, endRound_R, hw]
        refine hrec (i + 1) _ _ ?_ ?_ ?_ ?_
        · omega
        · omega
        · simp [Val.cellsL_snoc hlt, hw]
        · simp [hw]
      · clear hrec ih
        have : f.args.take i = f.args := List.take_of_length_le (by omega)
        have hl : i = f.args.length := by omega
        subst hl
        simp [round, Tryz.f21, evOps_cons, wantA_some, argsTm, ann_keep_21, ann_recov_21, ann_reg_21, reg21, ann_loop_21, loop21, headId, endRound_L, endRound_S, ann_draw_21, draw21, ann_dok_21, dok21, evDraw_cons, drawEnd, chkNeed, kindS, isEff, this, endRound_R, hw]
        try rw [List.take_of_length_le (by simp)]
        try rw [if_neg (by omega)]
  · have hw1 : 0 < f.ws.length := List.length_pos_iff.2 hw
    have hw2 : ¬ f.ws.length = 0 := by omega
    have hw3 : f.ws.length * 8 ≤ 70368744177664 := by omega
    have hw4 : f.ws.length ≤ 70368744177664 := by omega
    simp [Tryz.f21, evOps_cons, wantA_some, argsTm, ann_keep_21, ann_recov_21, ann_reg_21, reg21, ann_loop_21, loop21, headId, endRound_L, endRound_S, ann_draw_21, draw21, ann_dok_21, dok21, evDraw_cons, drawEnd, chkNeed, kindS, isEff, hw, hw1, hw2, hw3, hw4, flat_mem_ints]
    by_cases h0 : 0 < f.args.length
    case neg =>
      have : f.args = [] := List.eq_nil_of_length_eq_zero (by omega)
      rw [evCode_loop]
      simp [round, Tryz.f21, evOps_cons, wantA_some, argsTm, ann_keep_21, ann_recov_21, ann_reg_21, reg21, ann_loop_21, loop21, headId, endRound_L, endRound_S, ann_draw_21, draw21, ann_dok_21, dok21, evDraw_cons, drawEnd, chkNeed, kindS, isEff, this, hw, hw1, hw2, hw3, hw4, flat_mem_ints]
    have he0 := ih f.args[0] (by have := Val.nodes_arg (List.getElem_mem h0); omega) (by have := Val.nodes_arg (List.getElem_mem h0); omega) (slimL_mem hs.2 (List.getElem_mem h0))
    simp at he0
    rw [evCode_loop]
    have h3 : 3 ≤ f.args.length * 3 := by omega
    have g3 := Val.at_cellsL f.args 0 h0
    simp at g3
    simp [round, Tryz.f21, evOps_cons, wantA_some, argsTm, ann_keep_21, ann_recov_21, ann_reg_21, reg21, ann_loop_21, loop21, headId, endRound_L, endRound_S, ann_draw_21, draw21, ann_dok_21, dok21, evDraw_cons, drawEnd, chkNeed, kindS, isEff, h0, he0, h3, g3, endRound_R, hw, hw1, hw2, hw3, hw4, flat_mem_ints]
    refine loop_in (fun i : Nat => ⟨[(2, .ptr (m.bx.length + 1) 0), (3, .ptr (m.bx.length + 2) 0), (13, .isl false f.args.length (Val.cellsL f.args)), (14, .int .i64 f.args.length), (15, .int .i64 i)],
      ⟨m.bx ++ [f.cells, [.int .i64 0, .nils, .nils], [.int .i64 f.num, .sl (m.rw.length + 1) (i * 3) 0 i, .sl m.rw.length f.ws.length 0 f.ws.length]], m.rw ++ [⟨3, ints f.ws⟩, ⟨28, Val.cellsL (f.args.take i)⟩]⟩⟩)
      (fun i => some (.ret (.agg f.cells), m)) (fun i => f.args.length - i) (fun i => 0 < i ∧ i ≤ f.args.length) 1 ?_ ?_ ?_ ?_ ?_
    · have : f.args.take 1 = [f.args[0]] := by rw [List.take_succ_eq_append_getElem h0]; simp
      simp [this, Val.cellsL, hw, hw1, hw2, hw3, hw4, flat_mem_ints]
    · simp [hw, hw1, hw2, hw3, hw4, flat_mem_ints]
    · omega
    · intro x; simp [Tryz.f21, evOps_cons, wantA_some, argsTm, ann_keep_21, ann_recov_21, ann_reg_21, reg21, ann_loop_21, loop21, headId, endRound_L, endRound_S, ann_draw_21, draw21, ann_dok_21, dok21, evDraw_cons, drawEnd, chkNeed, kindS, isEff]
    · rintro i ⟨hi0, hi⟩ hrec
      have hmin : min i f.args.length = i := by omega
      by_cases hlt : i < f.args.length
      · have w2 : IntKind.i64.wrap (i + 1) = i + 1 := wrap_id _ (by omega)
        have hmem := Val.nodes_arg (List.getElem_mem hlt)
        have he := ih f.args[i] (by omega) (by omega) (slimL_mem hs.2 (List.getElem_mem hlt))
        simp at he
        clear ih
        have h3 : (i + 1) * 3 ≤ f.args.length * 3 := by omega
        have h4 : (i + 1) * 56 ≤ 70368744177664 := by omega
        have h5 : i + 1 ≤ 70368744177664 := by omega
        simp [round, Tryz.f21, evOps_cons, wantA_some, argsTm, ann_keep_21, ann_recov_21, ann_reg_21, reg21, ann_loop_21, loop21, headId, endRound_L, endRound_S, ann_draw_21, draw21, ann_dok_21, dok21, evDraw_cons, drawEnd, chkNeed, kindS, isEff, hlt, w2, h3, h4, h5, he, hmin, endRound_R, hw, hw1, hw2, hw3, hw4, flat_mem_ints]
        refine hrec (i + 1) _ _ ?_ ?_ ?_ ?_
        · omega
        · omega
        · simp [Val.cellsL_snoc hlt, hw, hw1, hw2, hw3, hw4, flat_mem_ints]
        · simp [hw, hw1, hw2, hw3, hw4, flat_mem_ints]
      · clear hrec ih
        have : f.args.take i = f.args := List.take_of_length_le (by omega)
        have hl : i = f.args.length := by omega
        subst hl
        simp [round, Tryz.f21, evOps_cons, wantA_some, argsTm, ann_keep_21, ann_recov_21, ann_reg_21, reg21, ann_loop_21, loop21, headId, endRound_L, endRound_S, ann_draw_21, draw21, ann_dok_21, dok21, evDraw_cons, drawEnd, chkNeed, kindS, isEff, this, endRound_R, hw, hw1, hw2, hw3, hw4, flat_mem_ints]
        try rw [List.take_of_length_le (by simp)]
        try rw [if_neg (by omega)]

set_option maxHeartbeats 2000000 in
theorem ev_SameInts (f1 f2 : Bool) (a b : List Int) (ha : a.length ≤ 1000000000) (m : Mem) : evCall C0 26 [.isl f1 a.length (ints a), .isl f2 b.length (ints b)] m = some (.ret (.bool (decide (a = b))), m) := by
  rw [evCall_body C0 (C0_ext _ (by decide)) (by rw [C0_P]; exact Tryz.func26) rfl (by rw [C0_ann]; rfl) (by decide) (by simp [Tryz.f26])]
  by_cases hl : a.length = b.length
  case neg =>
    have hl' : ¬ (a.length : Int) = b.length := by omega
    have hne : ¬ a = b := fun e => hl (by rw [e])
    simp [Tryz.f26, evOps_cons, wantA_some, argsTm, ann_keep_26, ann_recov_26, ann_reg_26, reg26, ann_loop_26, loop26, headId, endRound_L, endRound_S, ann_draw_26, draw26, ann_dok_26, dok26, evDraw_cons, drawEnd, chkNeed, kindS, isEff, hl', hne]
  have hl' : (a.length : Int) = b.length := by omega
  simp [Tryz.f26, evOps_cons, wantA_some, argsTm, ann_keep_26, ann_recov_26, ann_reg_26, reg26, ann_loop_26, loop26, headId, endRound_L, endRound_S, ann_draw_26, draw26, ann_dok_26, dok26, evDraw_cons, drawEnd, chkNeed, kindS, isEff, eq_true hl']
  refine loop_in (fun i : Nat => ⟨[(0, .isl f1 a.length (ints a)), (1, .isl f2 b.length (ints b)), (12, .int .i64 a.length), (13, .int .i64 i)], m⟩)
    (fun i => some (.ret (.bool (decide (a.drop i = b.drop i))), m)) (fun i => a.length - i) (fun i => i ≤ a.length) 0 ?_ ?_ ?_ ?_ ?_
  · simp
  · simp
  · simp
  · intro x; simp [Tryz.f26, evOps_cons, wantA_some, argsTm, ann_keep_26, ann_recov_26, ann_reg_26, reg26, ann_loop_26, loop26, headId, endRound_L, endRound_S, ann_draw_26, draw26, ann_dok_26, dok26, evDraw_cons, drawEnd, chkNeed, kindS, isEff]
  · intro i hi hrec
    by_cases hlt : i < a.length
    · have w2 : IntKind.i64.wrap (i + 1) = i + 1 := wrap_id _ (by omega)
      have hlt' : i < b.length := by omega
      have h3 : i + 1 ≤ a.length := by omega
      have h3' : i + 1 ≤ b.length := by omega
      have hd : (a.drop i = b.drop i) ↔ (a[i] = b[i] ∧ a.drop (i + 1) = b.drop (i + 1)) := by rw [List.drop_eq_getElem_cons hlt, List.drop_eq_getElem_cons hlt', List.cons.injEq]
      by_cases hc : a[i] = b[i]
      · simp [round, Tryz.f26, evOps_cons, wantA_some, argsTm, ann_keep_26, ann_recov_26, ann_reg_26, reg26, ann_loop_26, loop26, headId, endRound_L, endRound_S, ann_draw_26, draw26, ann_dok_26, dok26, evDraw_cons, drawEnd, chkNeed, kindS, isEff, hlt, hlt', w2, h3, h3', ints_at hlt, ints_at hlt', eq_true hc, endRound_M0]
        refine hrec (i + 1) _ _ ?_ ?_ ?_ ?_
        · omega
        · omega
        · simp
        · simp [hd, hc]
      · simp [round, Tryz.f26, evOps_cons, wantA_some, argsTm, ann_keep_26, ann_recov_26, ann_reg_26, reg26, ann_loop_26, loop26, headId, endRound_L, endRound_S, ann_draw_26, draw26, ann_dok_26, dok26, evDraw_cons, drawEnd, chkNeed, kindS, isEff, hlt, hlt', w2, h3, h3', ints_at hlt, ints_at hlt', hc, hd]
    · clear hrec
      have h5 : a.drop i = [] := List.drop_eq_nil_of_le (by omega)
      have h6 : b.drop i = [] := List.drop_eq_nil_of_le (by omega)
      simp [round, Tryz.f26, evOps_cons, wantA_some, argsTm, ann_keep_26, ann_recov_26, ann_reg_26, reg26, ann_loop_26, loop26, headId, endRound_L, endRound_S, ann_draw_26, draw26, ann_dok_26, dok26, evDraw_cons, drawEnd, chkNeed, kindS, isEff, hlt, h5, h6]

theorem cmpL_len {l r : List Val} (h : ¬ l.length = r.length) : ¬ cmpL l r = 0 := fun e => h (by rw [(cmpL_zero l r).1 e])
set_option maxHeartbeats 4000000 in
theorem ev_equal (N : Nat) : ∀ (f g : Val), f.nodes ≤ N → f.nodes ≤ 1000000000 → slimV f → ∀ (m : Mem), evCall C0 22 [.agg f.cells, .agg g.cells] m = some (.ret (.bool (decide (cmpV f g = 0))), m) := by
  induction N with
  | zero => intro f g hN; have := f.nodes_pos; omega
  | succ N ih =>
  intro f g hN hb hs m
  rw [slimV_eq] at hs
  rw [evCall_body C0 (C0_ext _ (by decide)) (by rw [C0_P]; exact Tryz.func22) rfl (by rw [C0_ann]; rfl) (by decide) (by simp [Tryz.f22])]
  rw [cmpV_eq]
  by_cases c1 : f.num = g.num
  case neg =>
    have d1 : ¬ numC f.num g.num = 0 := fun e => c1 (numC_zero.1 e)
    simp [Tryz.f22, evOps_cons, wantA_some, argsTm, ann_keep_22, ann_recov_22, ann_reg_22, reg22, ann_loop_22, loop22, headId, endRound_L, endRound_S, ann_draw_22, draw22, ann_dok_22, dok22, evDraw_cons, drawEnd, chkNeed, kindS, isEff, c1, d1]
  have d1 : numC f.num g.num = 0 := numC_zero.2 c1
  by_cases c3 : f.args.length = g.args.length
  case neg =>
    have d3 : ¬ (f.args.length : Int) = g.args.length := by omega
    have d4 := cmpL_len c3
    simp [Tryz.f22, evOps_cons, wantA_some, argsTm, ann_keep_22, ann_recov_22, ann_reg_22, reg22, ann_loop_22, loop22, headId, endRound_L, endRound_S, ann_draw_22, draw22, ann_dok_22, dok22, evDraw_cons, drawEnd, chkNeed, kindS, isEff, eq_true c1, d3, d1, d4]
  have d3 : (f.args.length : Int) = g.args.length := by omega
  have hsi := ev_SameInts false false f.ws g.ws hs.1
  by_cases c5 : f.ws = g.ws
  case neg =>
    have d5 : ¬ lexI f.ws g.ws = 0 := fun e => c5 ((lexI_zero _ _).1 e)
    simp [c5] at hsi
    have d6 : ¬ (if cmpL f.args g.args = 0 then lexI f.ws g.ws else cmpL f.args g.args) = 0 := by split <;> assumption
    simp [Tryz.f22, evOps_cons, wantA_some, argsTm, ann_keep_22, ann_recov_22, ann_reg_22, reg22, ann_loop_22, loop22, headId, endRound_L, endRound_S, ann_draw_22, draw22, ann_dok_22, dok22, evDraw_cons, drawEnd, chkNeed, kindS, isEff, eq_true c1, eq_true d3, d1, hsi, d6]
  have d5 : lexI f.ws g.ws = 0 := (lexI_zero _ _).2 c5
  rw [decide_eq_true c5] at hsi
  have d7 : (if cmpL f.args g.args = 0 then lexI f.ws g.ws else cmpL f.args g.args) = cmpL f.args g.args := by split <;> simp_all
  rw [if_pos d1, d7]
  simp [Tryz.f22, evOps_cons, wantA_some, argsTm, ann_keep_22, ann_recov_22, ann_reg_22, reg22, ann_loop_22, loop22, headId, endRound_L, endRound_S, ann_draw_22, draw22, ann_dok_22, dok22, evDraw_cons, drawEnd, chkNeed, kindS, isEff, eq_true c1, eq_true d3, hsi]
  refine loop_in (fun i : Nat => ⟨[(2, .ptr m.bx.length 0), (3, .ptr (m.bx.length + 1) 0), (30, .int .i64 f.args.length), (31, .int .i64 i)], ⟨m.bx ++ [f.cells, g.cells], m.rw⟩⟩)
    (fun i => some (.ret (.bool (decide (cmpL (f.args.drop i) (g.args.drop i) = 0))), m)) (fun i => f.args.length - i) (fun i => i ≤ f.args.length) 0 ?_ ?_ ?_ ?_ ?_
  · simp
  · simp
  · simp
  · intro x; simp [Tryz.f22, evOps_cons, wantA_some, argsTm, ann_keep_22, ann_recov_22, ann_reg_22, reg22, ann_loop_22, loop22, headId, endRound_L, endRound_S, ann_draw_22, draw22, ann_dok_22, dok22, evDraw_cons, drawEnd, chkNeed, kindS, isEff]
  · intro i hi hrec
    have hlen := f.length_args
    by_cases hlt : i < f.args.length
    · have w2 : IntKind.i64.wrap (i + 1) = i + 1 := wrap_id _ (by omega)
      have hlt' : i < g.args.length := by omega
      have hmem := Val.nodes_arg (List.getElem_mem hlt)
      have he := ih f.args[i] g.args[i] (by omega) (by omega) (slimL_mem hs.2 (List.getElem_mem hlt))
      simp at he
      clear ih
      have h3 : (i + 1) * 3 ≤ f.args.length * 3 := by omega
      have h3' : (i + 1) * 3 ≤ g.args.length * 3 := by omega
      rw [cmpL_drop hlt hlt']
      by_cases hc : cmpV f.args[i] g.args[i] = 0
      · simp [hc] at he
        simp [round, Tryz.f22, evOps_cons, wantA_some, argsTm, ann_keep_22, ann_recov_22, ann_reg_22, reg22, ann_loop_22, loop22, headId, endRound_L, endRound_S, ann_draw_22, draw22, ann_dok_22, dok22, evDraw_cons, drawEnd, chkNeed, kindS, isEff, hlt, hlt', w2, h3, h3', he, hc]
        refine hrec (i + 1) _ _ ?_ ?_ ?_ ?_
        · first | omega | (simp; omega)
        · first | omega | (simp; omega)
        · simp
        · simp
      · simp [hc] at he
        simp [round, Tryz.f22, evOps_cons, wantA_some, argsTm, ann_keep_22, ann_recov_22, ann_reg_22, reg22, ann_loop_22, loop22, headId, endRound_L, endRound_S, ann_draw_22, draw22, ann_dok_22, dok22, evDraw_cons, drawEnd, chkNeed, kindS, isEff, hlt, hlt', w2, h3, h3', he, hc]
    · clear hrec ih
      have hlt' : ¬ i < g.args.length := by omega
      simp [round, Tryz.f22, evOps_cons, wantA_some, argsTm, ann_keep_22, ann_recov_22, ann_reg_22, reg22, ann_loop_22, loop22, headId, endRound_L, endRound_S, ann_draw_22, draw22, ann_dok_22, dok22, evDraw_cons, drawEnd, chkNeed, kindS, isEff, hlt, hlt']
      rw [cmpL_end hlt hlt']

set_option maxHeartbeats 2000000 in
theorem ev_left0 (m : Mem) : evCall C0 63 [.agg [.int .i64 0, .int .i64 0, .nils], .int .i64 101] m = some (.ret (.int .i64 100), m) := by
  rw [evCall_body C0 (C0_ext _ (by decide)) (by rw [C0_P]; exact Tryz.func63) rfl (by rw [C0_ann]; rfl) (by decide) (by simp [Tryz.f63])]
  have w1 : IntKind.i64.wrap 100 = 100 := wrap_id _ (by omega)
  simp [Tryz.f63, evOps_cons, wantA_some, argsTm, ann_keep_63, ann_recov_63, ann_reg_63, reg63, ann_loop_63, loop63, headId, endRound_L, endRound_S, w1]
  rw [evCode_loop]
  simp [round, Tryz.f63, evOps_cons, wantA_some, argsTm, ann_keep_63, ann_recov_63, ann_reg_63, reg63, ann_loop_63, loop63, headId, endRound_L, endRound_S]
  rfl
theorem ev_Few0 (m : Mem) : evCall C0 32 [.agg [.int .i64 0, .int .i64 0, .nils], .int .i64 100] m = some (.ret (.bool true), m) := by
  rw [evCall_body C0 (C0_ext _ (by decide)) (by rw [C0_P]; exact Tryz.func32) rfl (by rw [C0_ann]; rfl) (by decide) (by simp [Tryz.f32])]
  have w1 : IntKind.i64.wrap 101 = 101 := wrap_id _ (by omega)
  simp [Tryz.f32, evOps_cons, wantA_some, argsTm, ann_keep_32, ann_recov_32, ann_reg_32, reg32, w1, ev_left0]
set_option maxHeartbeats 2000000 in
theorem ev_few0 (fl : Bool) (l : List Val) (hl : l.length ≤ 1000) (m : Mem) : evCall C0 9 [.agg [.int .i64 0, .int .i64 0, .nils], .isl fl l.length (Val.cellsL l)] m = some (.ret (.bool (l.all fun v => fewV v 3000)), m) := by
  rw [evCall_body C0 (C0_ext _ (by decide)) (by rw [C0_P]; exact Tryz.func9) rfl (by rw [C0_ann]; rfl) (by decide) (by simp [Tryz.f9])]
  simp [Tryz.f9, evOps_cons, wantA_some, argsTm, ann_keep_9, ann_recov_9, ann_reg_9, reg9, ann_loop_9, loop9, headId, endRound_L, endRound_S]
  refine loop_in (fun i : Nat => ⟨[(2, .ptr m.bx.length 0), (7, .isl fl l.length (Val.cellsL l)), (8, .int .i64 l.length), (9, .int .i64 i)], ⟨m.bx ++ [[.int .i64 0, .int .i64 0, .nils]], m.rw⟩⟩)
    (fun i => some (.ret (.bool ((l.drop i).all fun v => fewV v 3000)), m)) (fun i => l.length - i) (fun i => i ≤ l.length) 0 ?_ ?_ ?_ ?_ ?_
  · simp
  · simp
  · simp
  · intro x; simp [Tryz.f9, evOps_cons, wantA_some, argsTm, ann_keep_9, ann_recov_9, ann_reg_9, reg9, ann_loop_9, loop9, headId, endRound_L, endRound_S]
  · intro i hi hrec
    by_cases hlt : i < l.length
    · have w2 : IntKind.i64.wrap (i + 1) = i + 1 := wrap_id _ (by omega)
      have he := ev_FewV l[i] 3000
      simp at he
      have h3 : (i + 1) * 3 ≤ l.length * 3 := by omega
      rw [List.drop_eq_getElem_cons hlt, List.all_cons]
      cases hc : fewV l[i] 3000
      · simp [hc] at he
        simp [round, Tryz.f9, evOps_cons, wantA_some, argsTm, ann_keep_9, ann_recov_9, ann_reg_9, reg9, ann_loop_9, loop9, headId, endRound_L, endRound_S, hlt, w2, h3, he]
      · simp [hc] at he
        simp [round, Tryz.f9, evOps_cons, wantA_some, argsTm, ann_keep_9, ann_recov_9, ann_reg_9, reg9, ann_loop_9, loop9, headId, endRound_L, endRound_S, hlt, w2, h3, he, endRound_M]
        refine hrec (i + 1) _ _ ?_ ?_ ?_ ?_
        · omega
        · omega
        · simp
        · simp
    · clear hrec
      simp [round, Tryz.f9, evOps_cons, wantA_some, argsTm, ann_keep_9, ann_recov_9, ann_reg_9, reg9, ann_loop_9, loop9, headId, endRound_L, endRound_S, hlt, ev_Few0]
      rw [List.drop_eq_nil_of_le (by omega)]
      simp

set_option maxHeartbeats 4000000 in
/-- The statement about the order returns true. -/
theorem ev_Order (u v w : Val) (m : Mem) : evCall C0 5 [.agg u.cells, .agg v.cells, .agg w.cells] m = some (.ret (.bool true), m) := by
  rw [evCall_body C0 (C0_ext _ (by decide)) (by rw [C0_P]; exact Tryz.func5) rfl (by rw [C0_ann]; rfl) (by decide) (by simp [Tryz.f5])]
  have b1 := ev_few0 true [u, v, w] (by simp)
  simp [Val.cellsL] at b1
  cases f1 : fewV u 3000 with
  | false =>
    simp [f1] at b1
    simp [Tryz.f5, evOps_cons, wantA_some, argsTm, ann_keep_5, ann_recov_5, ann_reg_5, reg5, ann_draw_5, draw5, ann_dok_5, dok5, evDraw_cons, drawEnd, chkNeed, kindS, isEff, b1, ev_awake]
  | true =>
  cases f2 : fewV v 3000 with
  | false =>
    simp [f1, f2] at b1
    simp [Tryz.f5, evOps_cons, wantA_some, argsTm, ann_keep_5, ann_recov_5, ann_reg_5, reg5, ann_draw_5, draw5, ann_dok_5, dok5, evDraw_cons, drawEnd, chkNeed, kindS, isEff, b1, ev_awake]
  | true =>
  cases f3 : fewV w 3000 with
  | false =>
    simp [f1, f2, f3] at b1
    simp [Tryz.f5, evOps_cons, wantA_some, argsTm, ann_keep_5, ann_recov_5, ann_reg_5, reg5, ann_draw_5, draw5, ann_dok_5, dok5, evDraw_cons, drawEnd, chkNeed, kindS, isEff, b1, ev_awake]
  | true =>
  simp [f1, f2, f3] at b1
  have n1 := fewV_nodes (by omega) f1
  have n2 := fewV_nodes (by omega) f2
  have n3 := fewV_nodes (by omega) f3
  have s1 : slimV u := light_slim (most := 3000) (by omega) u (by unfold fewV at f1; simp at f1; exact f1.2)
  have s2 : slimV v := light_slim (most := 3000) (by omega) v (by unfold fewV at f2; simp at f2; exact f2.2)
  have c1 := ev_Compare u.nodes u (Nat.le_refl _) (by omega) s1
  have c2 := ev_Compare v.nodes v (Nat.le_refl _) (by omega) s2
  have e1 := c1 v
  have e2 := c2 w
  have e3 := c1 w
  have e4 := c2 u
  have e5 := c1 u
  have e6 := ev_VCopy u.nodes u (Nat.le_refl _) (by omega) s1
  have e7 := ev_equal u.nodes u v (Nat.le_refl _) (by omega) s1
  rw [cmpV_self] at e5
  have a1 := cmpV_anti u v
  have r1 := cmpV_range u v
  have r2 := cmpV_range v w
  have r3 := cmpV_range u w
  have w1 : IntKind.i64.wrap (- cmpV u v) = - cmpV u v := wrap_id _ (by omega)
  have w2 : IntKind.i64.wrap (cmpV u v + cmpV v w) = cmpV u v + cmpV v w := wrap_id _ (by omega)
  have t1 := @cmpV_trans u v w
  have t2 : cmpV u w = 0 → 0 ≤ cmpV u v + cmpV v w ∨ 0 < cmpV u v ∨ 0 < cmpV v w := by
    intro h
    rw [cmpV_zero] at h
    subst h
    omega
  simp at e1 e2 e3 e4 e5 e6 e7
  clear c1 c2
  generalize hx : cmpV u v = x at *
  generalize hy : cmpV v w = y at *
  generalize hz : cmpV u w = z at *
  have wr : ∀ n : Int, -10 ≤ n → n ≤ 10 → IntKind.i64.wrap n = n := fun n h0 h1 => wrap_id n (by omega)
  simp [Tryz.f5, evOps_cons, wantA_some, argsTm, ann_keep_5, ann_recov_5, ann_reg_5, reg5, ann_draw_5, draw5, ann_dok_5, dok5, evDraw_cons, drawEnd, chkNeed, kindS, isEff, b1, e1, e2, e3, e4, e5, e6, e7, a1, w1, w2, ev_awake]
  clear w1 w2 a1 b1 e1 e2 e3 e4 e5 e6 e7
  have cx : x = -1 ∨ x = 0 ∨ x = 1 := by omega
  have cy : y = -1 ∨ y = 0 ∨ y = 1 := by omega
  have cz : z = -1 ∨ z = 0 ∨ z = 1 := by omega
  by_cases hbad : (x ≤ 0 ∧ y ≤ 0 ∧ (0 < z ∨ z = 0 ∧ x + y < 0))
  · exfalso
    obtain ⟨q1, q2, q3⟩ := hbad
    have q4 := t1 q1 q2
    rcases q3 with q3 | ⟨q3, q5⟩
    · omega
    · rcases t2 q3 with q6 | q6 | q6 <;> omega
  clear t1 t2 r1 r2 r3 hx hy hz
  rcases cx with rfl | rfl | rfl <;> rcases cy with rfl | rfl | rfl <;> rcases cz with rfl | rfl | rfl <;> first
    | (exfalso; exact hbad (by decide))
    | simp [evOps_cons, wantA_some, ann_reg_5, reg5, wr, ev_awake]
end AE
end Go.Proofs.YtbgbajadhlhnmaaGreatDoor
