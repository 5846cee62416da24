/- The reference's functions about functors, on. -/
import Derived.Test.YtdifmcdgnbnhiaaDoorAF1
set_option linter.unusedVariables false
set_option linter.unusedSimpArgs false
namespace Go.Proofs.YtdifmcdgnbnhiaaDoor
namespace AE
open Go

theorem Fun.cellsL_snoc {l : List Fun} {i : Nat} (h : i < l.length) : Fun.cellsL (l.take (i + 1)) = Fun.cellsL (l.take i) ++ (l[i]).cells := by
  rw [List.take_succ_eq_append_getElem h, Fun.cellsL_append, Fun.cellsL, Fun.cellsL_nil, List.append_nil]
set_option maxHeartbeats 2000000 in
theorem ev_Copy (N : Nat) : ∀ (f : Fun), f.nodes ≤ N → f.nodes ≤ 1000000000 → ∀ (m : Mem), evCall C0 15 [.agg f.cells] m = some (.ret (.agg f.cells), m) := by
  induction N with
  | zero => intro f hN; have := f.nodes_pos; omega
  | succ N ih =>
  intro f hN hb m
  rw [evCall_body C0 (C0_ext _) (by rw [C0_P]; exact Tryd.func15) rfl (by rw [C0_ann]; rfl) (by decide) (by simp [Tryd.f15])]
  have hlen := f.length_args
  simp [Tryd.f15, evOps_cons, wantA_some, argsTm, ann_keep_15, ann_recov_15, ann_reg_15, reg15, ann_loop_15, loop15, headId, endRound_L, endRound_S, ann_draw_15, draw15, ann_dok_15, dok15, evDraw_cons, drawEnd, chkNeed, kindS, isEff]
  by_cases h0 : 0 < f.args.length
  case neg =>
    have : f.args = [] := List.eq_nil_of_length_eq_zero (by omega)
    rw [evCode_loop]
    simp [round, Tryd.f15, evOps_cons, wantA_some, argsTm, ann_keep_15, ann_recov_15, ann_reg_15, reg15, ann_loop_15, loop15, headId, endRound_L, endRound_S, ann_draw_15, draw15, ann_dok_15, dok15, evDraw_cons, drawEnd, chkNeed, kindS, isEff, this]
  have he0 := ih f.args[0] (by have := Fun.nodes_arg (List.getElem_mem h0); omega) (by have := Fun.nodes_arg (List.getElem_mem h0); omega)
  simp at he0
  rw [evCode_loop]
  have h3 : 3 ≤ f.args.length * 3 := by omega
  have g3 := Fun.at_cellsL f.args 0 h0
  simp at g3
  simp [round, Tryd.f15, evOps_cons, wantA_some, argsTm, ann_keep_15, ann_recov_15, ann_reg_15, reg15, ann_loop_15, loop15, headId, endRound_L, endRound_S, ann_draw_15, draw15, ann_dok_15, dok15, evDraw_cons, drawEnd, chkNeed, kindS, isEff, h0, he0, h3, g3, endRound_R0]
  refine loop_in (fun i : Nat => ⟨[(2, .ptr (m.bx.length + 1) 0), (3, .ptr (m.bx.length + 2) 0), (12, .isl false f.args.length (Fun.cellsL f.args)), (13, .int .i64 f.args.length), (14, .int .i64 i)],
    ⟨m.bx ++ [f.cells, [.int .i64 0, .int .i64 0, .nils], [.int .i64 f.kind, .int .i64 f.num, .sl m.rw.length (i * 3) 0 i]], m.rw ++ [⟨24, Fun.cellsL (f.args.take i)⟩]⟩⟩)
    (fun i => some (.ret (.agg f.cells), m)) (fun i => f.args.length - i) (fun i => 0 < i ∧ i ≤ f.args.length) 1 ?_ ?_ ?_ ?_ ?_
  · have : f.args.take 1 = [f.args[0]] := by rw [List.take_succ_eq_append_getElem h0]; simp
    simp [this, Fun.cellsL]
  · simp
  · omega
  · intro x; simp [Tryd.f15, evOps_cons, wantA_some, argsTm, ann_keep_15, ann_recov_15, ann_reg_15, reg15, ann_loop_15, loop15, headId, endRound_L, endRound_S, ann_draw_15, draw15, ann_dok_15, dok15, evDraw_cons, drawEnd, chkNeed, kindS, isEff]
  · rintro i ⟨hi0, hi⟩ hrec
    have hmin : min i f.args.length = i := by omega
    by_cases hlt : i < f.args.length
    · have w2 : IntKind.i64.wrap (i + 1) = i + 1 := wrap_id _ (by omega)
      have hmem := Fun.nodes_arg (List.getElem_mem hlt)
      have he := ih f.args[i] (by omega) (by omega)
      simp at he
      clear ih
      have h3 : (i + 1) * 3 ≤ f.args.length * 3 := by omega
      have h4 : (i + 1) * 40 ≤ 70368744177664 := by omega
      have h5 : i + 1 ≤ 70368744177664 := by omega
      simp [round, Tryd.f15, evOps_cons, wantA_some, argsTm, ann_keep_15, ann_recov_15, ann_reg_15, reg15, ann_loop_15, loop15, headId, endRound_L, endRound_S, ann_draw_15, draw15, ann_dok_15, dok15, evDraw_cons, drawEnd, chkNeed, kindS, isEff, hlt, w2, h3, h4, h5, he, hmin, endRound_R]
      refine hrec (i + 1) _ _ ?_ ?_ ?_ ?_
      · omega
      · omega
      · simp [Fun.cellsL_snoc hlt]
      · simp
    · clear hrec ih
      have : f.args.take i = f.args := List.take_of_length_le (by omega)
      have hl : i = f.args.length := by omega
      subst hl
      simp [round, Tryd.f15, evOps_cons, wantA_some, argsTm, ann_keep_15, ann_recov_15, ann_reg_15, reg15, ann_loop_15, loop15, headId, endRound_L, endRound_S, ann_draw_15, draw15, ann_dok_15, dok15, evDraw_cons, drawEnd, chkNeed, kindS, isEff, this, endRound_R]
      rw [List.take_of_length_le (by simp)]

def hasK (p : Int → Bool) : Fun → Bool
  | .mk k _ l => p k || l.attach.any fun ⟨g, _⟩ => hasK p g
theorem hasK_eq (p : Int → Bool) (f : Fun) : hasK p f = (p f.kind || f.args.any (hasK p)) := by
  cases f with
  | mk k n l =>
    rw [hasK]
    simp
theorem any_drop {α : Type} {p : α → Bool} {l : List α} {i : Nat} (h : i < l.length) : (l.drop i).any p = (p l[i] || (l.drop (i + 1)).any p) := by rw [List.drop_eq_getElem_cons h, List.any_cons]
def ints (ks : List Int) : List A := ks.map (.int .i64)
@[simp] theorem ints_length (ks : List Int) : (ints ks).length = ks.length := by simp [ints]
theorem ints_at {ks : List Int} {i : Nat} (h : i < ks.length) : ((ints ks).drop i).take 1 = [.int .i64 ks[i]] := by
  unfold ints
  rw [List.drop_eq_getElem_cons (by simpa using h)]
  simp
@[simp] theorem closed_ints (nb nr : Nat) (ks : List Int) : (ints ks).all (closed nb nr) = true := by simp [ints]
set_option maxHeartbeats 2000000 in
theorem ev_RHas (ks : List Int) (hks : ks.length ≤ 1000000) (fl : Bool) (N : Nat) : ∀ (f : Fun), f.nodes ≤ N → f.nodes ≤ 1000000000 → ∀ (m : Mem), evCall C0 39 [.agg f.cells, .isl fl ks.length (ints ks)] m = some (.ret (.bool (hasK (fun k => ks.any fun q => decide (k = q)) f)), m) := by
  induction N with
  | zero => intro f hN; have := f.nodes_pos; omega
  | succ N ih =>
  intro f hN hb m
  rw [evCall_body C0 (C0_ext _) (by rw [C0_P]; exact Tryd.func39) rfl (by rw [C0_ann]; rfl) (by decide) (by simp [Tryd.f39])]
  have hlen := f.length_args
  rw [hasK_eq]
  simp [Tryd.f39, evOps_cons, wantA_some, argsTm, ann_keep_39, ann_recov_39, ann_reg_39, reg39, ann_loop_39, loop39, headId, endRound_L, endRound_S]
  refine loop_in (fun i : Nat => ⟨[(1, .isl fl ks.length (ints ks)), (2, .ptr m.bx.length 0), (9, .isl fl ks.length (ints ks)), (10, .int .i64 ks.length), (11, .int .i64 i)], ⟨m.bx ++ [f.cells], m.rw⟩⟩)
    (fun i => some (.ret (.bool ((ks.drop i).any (fun q => decide (f.kind = q)) || f.args.any (hasK (fun k => ks.any fun q => decide (k = q))))), m)) (fun i => ks.length - i) (fun i => i ≤ ks.length) 0 ?_ ?_ ?_ ?_ ?_
  · simp
  · simp
  · omega
  · intro x; simp [Tryd.f39, evOps_cons, wantA_some, argsTm, ann_keep_39, ann_recov_39, ann_reg_39, reg39, ann_loop_39, loop39, headId, endRound_L, endRound_S]
  · intro i hi hrec
    by_cases hlt : i < ks.length
    · have w2 : IntKind.i64.wrap (i + 1) = i + 1 := wrap_id _ (by omega)
      clear ih
      have h3 : i + 1 ≤ ks.length := by omega
      rw [any_drop hlt]
      by_cases hc : f.kind = ks[i]
      · have hc' := eq_true hc
        simp [round, Tryd.f39, evOps_cons, wantA_some, argsTm, ann_keep_39, ann_recov_39, ann_reg_39, reg39, ann_loop_39, loop39, headId, endRound_L, endRound_S, hlt, w2, h3, ints_at hlt, hc']
      · simp [round, Tryd.f39, evOps_cons, wantA_some, argsTm, ann_keep_39, ann_recov_39, ann_reg_39, reg39, ann_loop_39, loop39, headId, endRound_L, endRound_S, hlt, w2, h3, ints_at hlt, hc]
        refine hrec (i + 1) _ _ ?_ ?_ ?_ ?_
        · omega
        · omega
        · simp
        · simp
    · clear hrec
      simp [round, Tryd.f39, evOps_cons, wantA_some, argsTm, ann_keep_39, ann_recov_39, ann_reg_39, reg39, ann_loop_39, loop39, headId, endRound_L, endRound_S, hlt]
      rw [List.drop_eq_nil_of_le (by omega)]
      refine loop_in (fun i : Nat => ⟨[(1, .isl fl ks.length (ints ks)), (21, .isl false f.args.length (Fun.cellsL f.args)), (22, .int .i64 f.args.length), (23, .int .i64 i)], ⟨m.bx ++ [f.cells], m.rw⟩⟩)
        (fun i => some (.ret (.bool ((f.args.drop i).any (hasK (fun k => ks.any fun q => decide (k = q))))), m)) (fun i => f.args.length - i) (fun i => i ≤ f.args.length) 0 ?_ ?_ ?_ ?_ ?_
      · simp
      · simp
      · omega
      · intro x; simp [Tryd.f39, evOps_cons, wantA_some, argsTm, ann_keep_39, ann_recov_39, ann_reg_39, reg39, ann_loop_39, loop39, headId, endRound_L, endRound_S]
      · intro i hi hrec
        by_cases hlt : i < f.args.length
        · have w2 : IntKind.i64.wrap (i + 1) = i + 1 := wrap_id _ (by omega)
          have hmem := Fun.nodes_arg (List.getElem_mem hlt)
          have he := ih f.args[i] (by omega) (by omega)
          simp at he
          clear ih
          have h3 : (i + 1) * 3 ≤ f.args.length * 3 := by omega
          rw [any_drop hlt]
          cases hc : hasK (fun k => ks.any fun q => decide (k = q)) f.args[i]
          · simp [hc] at he
            simp [round, Tryd.f39, evOps_cons, wantA_some, argsTm, ann_keep_39, ann_recov_39, ann_reg_39, reg39, ann_loop_39, loop39, headId, endRound_L, endRound_S, hlt, w2, h3, he]
            refine hrec (i + 1) _ _ ?_ ?_ ?_ ?_
            · omega
            · omega
            · simp
            · simp
          · simp [hc] at he
            simp [round, Tryd.f39, evOps_cons, wantA_some, argsTm, ann_keep_39, ann_recov_39, ann_reg_39, reg39, ann_loop_39, loop39, headId, endRound_L, endRound_S, hlt, w2, h3, he]
        · clear hrec ih
          simp [round, Tryd.f39, evOps_cons, wantA_some, argsTm, ann_keep_39, ann_recov_39, ann_reg_39, reg39, ann_loop_39, loop39, headId, endRound_L, endRound_S, hlt]
          rw [List.drop_eq_nil_of_le (by omega)]
          simp

theorem ev_RPoly (f : Fun) (hb : f.nodes ≤ 1000000000) (m : Mem) : evCall C0 23 [.agg f.cells] m = some (.ret (.bool (!hasK (fun k => decide (k = 5) || decide (k = 6) || decide (k = 7)) f)), m) := by
  rw [evCall_body C0 (C0_ext _) (by rw [C0_P]; exact Tryd.func23) rfl (by rw [C0_ann]; rfl) (by decide) (by simp [Tryd.f23])]
  have he := ev_RHas [5, 6, 7] (by simp) true f.nodes f (Nat.le_refl _) hb
  simp [ints] at he
  simp [Tryd.f23, evOps_cons, wantA_some, argsTm, ann_keep_23, ann_recov_23, ann_reg_23, reg23, he, Bool.or_assoc]
theorem ev_RPlain (f : Fun) (hb : f.nodes ≤ 1000000000) (m : Mem) : evCall C0 24 [.agg f.cells] m = some (.ret (.bool (!hasK (fun k => decide (k = 6) || decide (k = 7)) f)), m) := by
  rw [evCall_body C0 (C0_ext _) (by rw [C0_P]; exact Tryd.func24) rfl (by rw [C0_ann]; rfl) (by decide) (by simp [Tryd.f24])]
  have he := ev_RHas [6, 7] (by simp) true f.nodes f (Nat.le_refl _) hb
  simp [ints] at he
  simp [Tryd.f24, evOps_cons, wantA_some, argsTm, ann_keep_24, ann_recov_24, ann_reg_24, reg24, he]
def isF (f : Fun) : Bool := decide (0 < leftF f 21) && decide (f.depth ≤ 8) && shapedF f
theorem ev_fault (f : Fun) (hb : f.nodes ≤ 1000000000) (m : Mem) : evCall C0 10 [.agg f.cells] m = some (.ret (.int .i64 (if isF f then 0 else 10)), m) := by
  rw [evCall_body C0 (C0_ext _) (by rw [C0_P]; exact Tryd.func10) rfl (by rw [C0_ann]; rfl) (by decide) (by simp [Tryd.f10])]
  have he := ev_Is f hb
  rw [← isF] at he
  simp at he
  cases hc : isF f <;> simp [hc] at he <;> simp [Tryd.f10, evOps_cons, wantA_some, argsTm, ann_keep_10, ann_recov_10, ann_reg_10, reg10, he]
end AE
end Go.Proofs.YtdifmcdgnbnhiaaDoor

