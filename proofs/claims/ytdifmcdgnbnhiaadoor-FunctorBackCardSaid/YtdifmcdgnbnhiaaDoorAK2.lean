/- The statement about parsing the string of a functor in brackets, evaluated. -/
import Derived.Test.YtdifmcdgnbnhiaaDoorAK1
set_option linter.unusedVariables false
set_option linter.unusedSimpArgs false
namespace Go.Proofs.YtdifmcdgnbnhiaaDoor
namespace AE
open Go

set_option maxHeartbeats 4000000 in
/-- The statement returns true. -/
theorem ev_Back (f : Fun) (n : Nat) (hn : n ≤ 255) (m : Mem) : evCall C0 4 [.agg f.cells, .int .u8 n] m = some (.ret (.bool true), m) := by
  rw [evCall_body C0 (C0_ext _) (by rw [C0_P]; exact Tryd.func4) rfl (by rw [C0_ann]; rfl) (by decide) (by simp [Tryd.f4])]
  have b1 := ev_Few f 2000
  simp only [show (2000 : Int) + 1 = 2001 from rfl, few_iff] at b1
  simp at b1
  by_cases hf : f.nodes ≤ 2000
  case neg =>
    simp [hf] at b1
    simp [Tryd.f4, evOps_cons, wantA_some, argsTm, ann_keep_4, ann_recov_4, ann_reg_4, reg4, ann_loop_4, loop4, headId, endRound_L, endRound_S, b1, ev_awake]
  simp [hf] at b1
  have b7 := ev_fault f (by omega)
  have b5 := ev_String f (by omega)
  have b10 := ev_RSame f.nodes f f (Nat.le_refl _) (by omega)
  rw [isF_okF] at b7
  rw [(sameF_iff f f).2 rfl] at b10
  simp at b5 b7 b10
  cases hok : okF f with
  | false =>
    simp [hok] at b7
    simp [Tryd.f4, evOps_cons, wantA_some, argsTm, ann_keep_4, ann_recov_4, ann_reg_4, reg4, ann_loop_4, loop4, headId, endRound_L, endRound_S, b1, b7, ev_awake]
  | true =>
  simp [hok] at b5 b7
  by_cases h100 : n ≤ 100
  case neg =>
    have h100' : (100 : Int) < n := by omega
    simp [Tryd.f4, evOps_cons, wantA_some, argsTm, ann_keep_4, ann_recov_4, ann_reg_4, reg4, ann_loop_4, loop4, headId, endRound_L, endRound_S, b1, b7, ev_awake, h100']
  have h100' : ¬ (100 : Int) < n := by omega
  simp [Tryd.f4, evOps_cons, wantA_some, argsTm, ann_keep_4, ann_recov_4, ann_reg_4, reg4, ann_loop_4, loop4, headId, endRound_L, endRound_S, b1, b7, b5, h100']
  have hl := textF_length f true
  refine loop_in (fun i : Nat => ⟨[(2, .ptr m.bx.length 0), (5, .str (br i (textF f true))), (28, .int .u8 n), (29, .int .u8 i)], ⟨m.bx ++ [f.cells], m.rw⟩⟩)
    (fun _ => some (.ret (.bool true), m)) (fun i => n - i) (fun i => i ≤ n) 0 ?_ ?_ ?_ ?_ ?_
  · simp [br]
  · simp
  · simp
  · intro x; simp [Tryd.f4, evOps_cons, wantA_some, argsTm, ann_keep_4, ann_recov_4, ann_reg_4, reg4, ann_loop_4, loop4, headId, endRound_L, endRound_S]
  · intro i hi hrec
    have hlb := br_length i (textF f true)
    by_cases hlt : i < n
    · have w2 : IntKind.u8.wrap (i + 1) = i + 1 := wrap8 _ (by omega)
      simp [round, Tryd.f4, evOps_cons, wantA_some, argsTm, ann_keep_4, ann_recov_4, ann_reg_4, reg4, ann_loop_4, loop4, headId, endRound_L, endRound_S, hlt, w2, endRound_M0]
      repeat (rw [if_pos (by omega)]; simp [round, Tryd.f4, evOps_cons, wantA_some, argsTm, ann_keep_4, ann_recov_4, ann_reg_4, reg4, ann_loop_4, loop4, headId, endRound_L, endRound_S, hlt, w2, endRound_M0])
      refine hrec (i + 1) _ _ ?_ ?_ ?_ ?_
      · omega
      · omega
      · simp [br]
      · simp
    · clear hrec
      have hin : i = n := by omega
      subst hin
      obtain ⟨t, e1, e2, e3⟩ := parse_back hok i h100
      have e4 := ev_Parse _ _ t f e3 e1 (by omega)
      rw [e2] at e4
      simp at e4
      simp [round, Tryd.f4, evOps_cons, wantA_some, argsTm, ann_keep_4, ann_recov_4, ann_reg_4, reg4, ann_loop_4, loop4, headId, endRound_L, endRound_S, hlt, e4, b10, ev_awake]
end AE
end Go.Proofs.YtdifmcdgnbnhiaaDoor
