/- The reference: kinds, numbers, weights, the order; evaluated. -/
import Derived.Test.YthoomlenmgdebaaGreatDoorVY1
set_option linter.unusedVariables false
set_option linter.unusedSimpArgs false
namespace Go.Proofs.YthoomlenmgdebaaGreatDoor
namespace AE
open Go

theorem ev_Weighted (k : Int) (m : Mem) : evCall C0 68 [.int .i64 k] m = some (.ret (.bool (wtd k)), m) := by
  rw [evCall_body C0 (C0_ext _ (by decide)) (by rw [C0_P]; exact Tryz.func68) rfl (by rw [C0_ann]; rfl) (by decide) (by simp [Tryz.f68])]
  unfold wtd
  by_cases h : k = 6
  · simp [Tryz.f68, evOps_cons, wantA_some, argsTm, ann_keep_68, ann_recov_68, ann_reg_68, reg68, h]
  · simp [Tryz.f68, evOps_cons, wantA_some, argsTm, ann_keep_68, ann_recov_68, ann_reg_68, reg68, h]
theorem ev_Sets (k : Int) (m : Mem) : evCall C0 38 [.int .i64 k] m = some (.ret (.bool (setsK k)), m) := by
  rw [evCall_body C0 (C0_ext _ (by decide)) (by rw [C0_P]; exact Tryz.func38) rfl (by rw [C0_ann]; rfl) (by decide) (by simp [Tryz.f38])]
  unfold setsK
  have he := ev_Weighted k
  by_cases h : k = 5
  · simp [Tryz.f38, evOps_cons, wantA_some, argsTm, ann_keep_38, ann_recov_38, ann_reg_38, reg38, h]
  · simp [Tryz.f38, evOps_cons, wantA_some, argsTm, ann_keep_38, ann_recov_38, ann_reg_38, reg38, h, he]
theorem ev_rgcd (a b : Nat) (m : Mem) : evCall C0 69 [.int .i64 a, .int .i64 b] m = some (.ret (.int .i64 (Nat.gcd a b : Nat)), m) := by
  rw [evCall_body C0 (C0_ext _ (by decide)) (by rw [C0_P]; exact Tryz.func69) rfl (by rw [C0_ann]; rfl) (by decide) (by simp [Tryz.f69])]
  simp [Tryz.f69, evOps_cons, wantA_some, argsTm, ann_keep_69, ann_recov_69, ann_reg_69, reg69, ann_loop_69, loop69, headId, endRound_L, endRound_S, ann_draw_69, draw69, ann_dok_69, dok69, evDraw_cons, drawEnd, chkNeed, kindS, isEff]
  refine loop_in (fun y : Nat × Nat => ⟨[(0, .int .i64 y.1), (1, .int .i64 y.2)], m⟩)
    (fun y => some (.ret (.int .i64 (Nat.gcd y.1 y.2 : Nat)), m)) (fun y => y.2) (fun y => True) (a, b) ?_ ?_ ?_ ?_ ?_
  · simp
  · simp
  · trivial
  · intro x; simp [Tryz.f69, evOps_cons, wantA_some, argsTm, ann_keep_69, ann_recov_69, ann_reg_69, reg69, ann_loop_69, loop69, headId, endRound_L, endRound_S, ann_draw_69, draw69, ann_dok_69, dok69, evDraw_cons, drawEnd, chkNeed, kindS, isEff]
  · rintro ⟨a, c⟩ _ hrec
    by_cases h0 : c = 0
    · subst h0
      simp [round, Tryz.f69, evOps_cons, wantA_some, argsTm, ann_keep_69, ann_recov_69, ann_reg_69, reg69, ann_loop_69, loop69, headId, endRound_L, endRound_S, ann_draw_69, draw69, ann_dok_69, dok69, evDraw_cons, drawEnd, chkNeed, kindS, isEff]
    · have ht : (a : Int).tmod (c : Int) = ((a % c : Nat) : Int) := tmod_nat a c
      have hm : a % c < c := Nat.mod_lt _ (by omega)
      simp [round, Tryz.f69, evOps_cons, wantA_some, argsTm, ann_keep_69, ann_recov_69, ann_reg_69, reg69, ann_loop_69, loop69, headId, endRound_L, endRound_S, ann_draw_69, draw69, ann_dok_69, dok69, evDraw_cons, drawEnd, chkNeed, kindS, isEff, h0, ht, endRound_M0]
      refine hrec (c, a % c) _ _ ?_ ?_ ?_ ?_
      · exact hm
      · trivial
      · simp
      · simp only
        rw [Nat.gcd_comm c, ← Nat.gcd_rec, Nat.gcd_comm]
theorem ev_rorder (a b : Int) (m : Mem) : evCall C0 55 [.int .i64 a, .int .i64 b] m = some (.ret (.int .i64 (numC a b)), m) := by
  rw [evCall_body C0 (C0_ext _ (by decide)) (by rw [C0_P]; exact Tryz.func55) rfl (by rw [C0_ann]; rfl) (by decide) (by simp [Tryz.f55])]
  unfold numC
  by_cases h : a < b
  · simp [Tryz.f55, evOps_cons, wantA_some, argsTm, ann_keep_55, ann_recov_55, ann_reg_55, reg55, h]
  · by_cases h2 : b < a
    · simp [Tryz.f55, evOps_cons, wantA_some, argsTm, ann_keep_55, ann_recov_55, ann_reg_55, reg55, h, h2]
    · simp [Tryz.f55, evOps_cons, wantA_some, argsTm, ann_keep_55, ann_recov_55, ann_reg_55, reg55, h, h2]
/-- N is what the functor asks. -/
def numB (f : Fun) (n k : Int) : Bool := decide (0 ≤ k ∧ k ≤ (if f.kind = 0 then n - 1 else if f.kind = 1 then f.num - 1 else if f.kind = 3 then 1 else 0))
theorem ev_rnumber (f : Fun) (n : Int) (v : Val) (h0 : -1000000 ≤ n) (h1 : n ≤ 1000000) (hf : -1000000 ≤ f.num ∧ f.num ≤ 1000000) (m : Mem) : evCall C0 86 [.agg f.cells, .int .i64 n, .agg v.cells] m = some (.ret (.bool (numB f n v.num)), m) := by
  rw [evCall_body C0 (C0_ext _ (by decide)) (by rw [C0_P]; exact Tryz.func86) rfl (by rw [C0_ann]; rfl) (by decide) (by simp [Tryz.f86])]
  have w1 : IntKind.i64.wrap (n - 1) = n - 1 := wrap_id _ (by omega)
  have w2 : IntKind.i64.wrap (f.num - 1) = f.num - 1 := wrap_id _ (by omega)
  unfold numB
  by_cases c : 0 ≤ v.num
  · by_cases k0 : f.kind = 0
    · simp [Tryz.f86, evOps_cons, wantA_some, argsTm, ann_keep_86, ann_recov_86, ann_reg_86, reg86, k0, w1, c]
    · by_cases k1 : f.kind = 1
      · simp [Tryz.f86, evOps_cons, wantA_some, argsTm, ann_keep_86, ann_recov_86, ann_reg_86, reg86, k1, w2, c]
      · by_cases k3 : f.kind = 3
        · simp [Tryz.f86, evOps_cons, wantA_some, argsTm, ann_keep_86, ann_recov_86, ann_reg_86, reg86, k3, c]
        · simp [Tryz.f86, evOps_cons, wantA_some, argsTm, ann_keep_86, ann_recov_86, ann_reg_86, reg86, k0, k1, k3, c]
  · by_cases k0 : f.kind = 0
    · simp [Tryz.f86, evOps_cons, wantA_some, argsTm, ann_keep_86, ann_recov_86, ann_reg_86, reg86, k0, w1, c]
    · by_cases k1 : f.kind = 1
      · simp [Tryz.f86, evOps_cons, wantA_some, argsTm, ann_keep_86, ann_recov_86, ann_reg_86, reg86, k1, w2, c]
      · by_cases k3 : f.kind = 3
        · simp [Tryz.f86, evOps_cons, wantA_some, argsTm, ann_keep_86, ann_recov_86, ann_reg_86, reg86, k3, c]
        · simp [Tryz.f86, evOps_cons, wantA_some, argsTm, ann_keep_86, ann_recov_86, ann_reg_86, reg86, k0, k1, k3, c]
/-- The weights are what the kind asks. -/
def wghB (k : Int) (many : Nat) (w : List Int) : Bool := if wtd k then weighI w 0 && decide (w.length = many) && (decide (k = 6) || decide (0 < many)) else decide (w.length = 0)
set_option maxHeartbeats 1000000 in
theorem ev_rweighed (k : Int) (v : Val) (hb : v.nodes ≤ 1000000000) (hs : v.ws.length ≤ 1000000000) (m : Mem) : evCall C0 87 [.int .i64 k, .agg v.cells] m = some (.ret (.bool (wghB k v.args.length v.ws)), m) := by
  rw [evCall_body C0 (C0_ext _ (by decide)) (by rw [C0_P]; exact Tryz.func87) rfl (by rw [C0_ann]; rfl) (by decide) (by simp [Tryz.f87])]
  have he := ev_Weighted k
  have hlen := v.length_args
  unfold wghB
  cases hw : wtd k
  · simp [hw] at he
    by_cases h0 : v.ws.length = 0
    · simp [Tryz.f87, evOps_cons, wantA_some, argsTm, ann_keep_87, ann_recov_87, ann_reg_87, reg87, ann_loop_87, loop87, headId, endRound_L, endRound_S, he, h0]
    · simp [Tryz.f87, evOps_cons, wantA_some, argsTm, ann_keep_87, ann_recov_87, ann_reg_87, reg87, ann_loop_87, loop87, headId, endRound_L, endRound_S, he, h0]
  · simp [hw] at he
    simp [Tryz.f87, evOps_cons, wantA_some, argsTm, ann_keep_87, ann_recov_87, ann_reg_87, reg87, ann_loop_87, loop87, headId, endRound_L, endRound_S, he]
    refine loop_in (fun x : Nat × Int => ⟨[(0, .int .i64 k), (3, .ptr m.bx.length 0), (5, .int .i64 x.2), (16, .isl false v.ws.length (ints v.ws)), (17, .int .i64 v.ws.length), (18, .int .i64 x.1)], ⟨m.bx ++ [v.cells], m.rw⟩⟩)
      (fun x => some (.ret (.bool (weighI (v.ws.drop x.1) x.2 && decide (v.ws.length = v.args.length) && (decide (k = 6) || decide (0 < v.args.length)))), m)) (fun x => v.ws.length - x.1) (fun x => x.1 ≤ v.ws.length ∧ 0 ≤ x.2 ∧ x.2 ≤ 1048576) (0, 0) ?_ ?_ ?_ ?_ ?_
    · simp
    · simp
    · simp
    · intro x; simp [Tryz.f87, evOps_cons, wantA_some, argsTm, ann_keep_87, ann_recov_87, ann_reg_87, reg87, ann_loop_87, loop87, headId, endRound_L, endRound_S]
    · rintro ⟨i, q⟩ hI hrec
      simp only at hI
      obtain ⟨hi, hq0, hq⟩ := hI
      by_cases hlt : i < v.ws.length
      · have w2 : IntKind.i64.wrap (i + 1) = i + 1 := wrap_id _ (by omega)
        have w4 : IntKind.i64.wrap (1048576 - q) = 1048576 - q := wrap_id _ (by omega)
        have hat := ints_at hlt
        have h5 : i + 1 ≤ v.ws.length := by omega
        simp only
        rw [weighI_drop hlt]
        generalize v.ws[i] = x at hat ⊢
        by_cases h1 : x < 1
        · clear hrec
          simp [round, Tryz.f87, evOps_cons, wantA_some, argsTm, ann_keep_87, ann_recov_87, ann_reg_87, reg87, ann_loop_87, loop87, headId, endRound_L, endRound_S, hlt, h5, w2, hat, h1]
        by_cases h3 : 1048576 - q < x
        · clear hrec
          simp [round, Tryz.f87, evOps_cons, wantA_some, argsTm, ann_keep_87, ann_recov_87, ann_reg_87, reg87, ann_loop_87, loop87, headId, endRound_L, endRound_S, hlt, h5, w2, w4, hat, h1, h3]
        · have w3 : IntKind.i64.wrap (q + x) = q + x := wrap_id _ (by omega)
          simp [round, Tryz.f87, evOps_cons, wantA_some, argsTm, ann_keep_87, ann_recov_87, ann_reg_87, reg87, ann_loop_87, loop87, headId, endRound_L, endRound_S, hlt, h5, w2, w3, w4, hat, h1, h3, endRound_M]
          refine hrec (i + 1, q + x) _ _ ?_ ?_ ?_ ?_
          · simp; omega
          · simp; omega
          · simp
          · simp
      · clear hrec
        rw [List.drop_eq_nil_of_le (by omega), weighI]
        by_cases h2 : v.ws.length = v.args.length
        · have hlt' : ¬ i < v.args.length := by omega
          by_cases h6 : k = 6
          · simp [round, Tryz.f87, evOps_cons, wantA_some, argsTm, ann_keep_87, ann_recov_87, ann_reg_87, reg87, ann_loop_87, loop87, headId, endRound_L, endRound_S, hlt', h2, h6]
          · by_cases h7 : 0 < v.args.length
            · simp [round, Tryz.f87, evOps_cons, wantA_some, argsTm, ann_keep_87, ann_recov_87, ann_reg_87, reg87, ann_loop_87, loop87, headId, endRound_L, endRound_S, hlt', h2, h6, h7]
            · simp [round, Tryz.f87, evOps_cons, wantA_some, argsTm, ann_keep_87, ann_recov_87, ann_reg_87, reg87, ann_loop_87, loop87, headId, endRound_L, endRound_S, hlt', h2, h6, h7, show ¬ (0 : Int) < v.args.length by omega]
        · simp [round, Tryz.f87, evOps_cons, wantA_some, argsTm, ann_keep_87, ann_recov_87, ann_reg_87, reg87, ann_loop_87, loop87, headId, endRound_L, endRound_S, hlt, h2, show ¬ (v.ws.length : Int) = v.args.length by omega]
end AE
end Go.Proofs.YthoomlenmgdebaaGreatDoor

/- The reference's order of values; evaluated. -/
set_option linter.unusedVariables false
set_option linter.unusedSimpArgs false
namespace Go.Proofs.YthoomlenmgdebaaGreatDoor
namespace AE
open Go

set_option maxHeartbeats 4000000 in
theorem ev_RCompare (N : Nat) : ∀ (u : Val), u.nodes ≤ N → u.nodes ≤ 1000000000 → slimV u → ∀ (v : Val) (m : Mem), evCall C0 24 [.agg u.cells, .agg v.cells] m = some (.ret (.int .i64 (cmpV u v)), m) := by
  induction N with
  | zero => intro u hN; have := u.nodes_pos; omega
  | succ N ih =>
  intro u hN hb hs v m
  rw [slimV_eq] at hs
  have hlen := u.length_args
  rw [evCall_body C0 (C0_ext _ (by decide)) (by rw [C0_P]; exact Tryz.func24) rfl (by rw [C0_ann]; rfl) (by decide) (by simp [Tryz.f24])]
  rw [cmpV_eq]
  by_cases c1 : u.num = v.num
  case neg =>
    have he := ev_rorder u.num v.num
    rw [if_neg (fun h => c1 (numC_zero.1 h))]
    simp [Tryz.f24, evOps_cons, wantA_some, argsTm, ann_keep_24, ann_recov_24, ann_reg_24, reg24, ann_loop_24, loop24, headId, endRound_L, endRound_S, ann_draw_24, draw24, ann_dok_24, dok24, evDraw_cons, drawEnd, chkNeed, kindS, isEff, c1, he]
  rw [if_pos (numC_zero.2 c1)]
  simp [Tryz.f24, evOps_cons, wantA_some, argsTm, ann_keep_24, ann_recov_24, ann_reg_24, reg24, ann_loop_24, loop24, headId, endRound_L, endRound_S, ann_draw_24, draw24, ann_dok_24, dok24, evDraw_cons, drawEnd, chkNeed, kindS, isEff, c1]
  refine loop_in (fun i : Nat => ⟨[(2, .ptr m.bx.length 0), (3, .ptr (m.bx.length + 1) 0), (5, .int .i64 i)], ⟨m.bx ++ [u.cells, v.cells], m.rw⟩⟩)
    (fun i => some (.ret (.int .i64 (if cmpL (u.args.drop i) (v.args.drop i) = 0 then lexI u.ws v.ws else cmpL (u.args.drop i) (v.args.drop i))), m)) (fun i => u.args.length - i) (fun i => i ≤ u.args.length ∧ i ≤ v.args.length) 0 ?_ ?_ ?_ ?_ ?_
  · simp [c1]
  · simp
  · simp
  · intro x; simp [Tryz.f24, evOps_cons, wantA_some, argsTm, ann_keep_24, ann_recov_24, ann_reg_24, reg24, ann_loop_24, loop24, headId, endRound_L, endRound_S, ann_draw_24, draw24, ann_dok_24, dok24, evDraw_cons, drawEnd, chkNeed, kindS, isEff]
  · rintro i ⟨hi, hi'⟩ hrec
    by_cases hlt : i < u.args.length
    · by_cases hlt' : i < v.args.length
      · have w2 : IntKind.i64.wrap (i + 1) = i + 1 := wrap_id _ (by omega)
        have m0 := Val.nodes_arg (List.getElem_mem hlt)
        have he := ih u.args[i] (by omega) (by omega) (slimL_mem hs.2 (List.getElem_mem hlt)) v.args[i]
        simp at he
        have h3 : (i + 1) * 3 ≤ u.args.length * 3 := by omega
        have h4 : (i + 1) * 3 ≤ v.args.length * 3 := by omega
        rw [cmpL_drop hlt hlt']
        by_cases hc : cmpV u.args[i] v.args[i] = 0
        · simp [hc] at he
          simp [round, Tryz.f24, evOps_cons, wantA_some, argsTm, ann_keep_24, ann_recov_24, ann_reg_24, reg24, ann_loop_24, loop24, headId, endRound_L, endRound_S, ann_draw_24, draw24, ann_dok_24, dok24, evDraw_cons, drawEnd, chkNeed, kindS, isEff, hlt, hlt', w2, h3, h4, he, hc, endRound_M]
          refine hrec (i + 1) _ _ ?_ ?_ ?_ ?_
          · omega
          · omega
          · simp
          · simp
        · clear hrec
          simp [round, Tryz.f24, evOps_cons, wantA_some, argsTm, ann_keep_24, ann_recov_24, ann_reg_24, reg24, ann_loop_24, loop24, headId, endRound_L, endRound_S, ann_draw_24, draw24, ann_dok_24, dok24, evDraw_cons, drawEnd, chkNeed, kindS, isEff, hlt, hlt', w2, h3, h4, he, hc]
      · clear hrec
        have hv : i = v.args.length := by omega
        have he := ev_rorder u.args.length v.args.length
        have hnc : numC (u.args.length : Int) v.args.length = 1 := by unfold numC; rw [if_neg (by omega), if_pos (by omega)]
        rw [cmpL_long hlt hlt']
        simp [round, Tryz.f24, evOps_cons, wantA_some, argsTm, ann_keep_24, ann_recov_24, ann_reg_24, reg24, ann_loop_24, loop24, headId, endRound_L, endRound_S, ann_draw_24, draw24, ann_dok_24, dok24, evDraw_cons, drawEnd, chkNeed, kindS, isEff, hlt, hlt', he, hnc, show ¬ (u.args.length : Int) = v.args.length by omega]
    · by_cases hlt' : i < v.args.length
      · clear hrec
        have he := ev_rorder u.args.length v.args.length
        have hnc : numC (u.args.length : Int) v.args.length = -1 := by unfold numC; rw [if_pos (by omega)]
        rw [cmpL_short hlt hlt']
        simp [round, Tryz.f24, evOps_cons, wantA_some, argsTm, ann_keep_24, ann_recov_24, ann_reg_24, reg24, ann_loop_24, loop24, headId, endRound_L, endRound_S, ann_draw_24, draw24, ann_dok_24, dok24, evDraw_cons, drawEnd, chkNeed, kindS, isEff, hlt, hlt', he, hnc, show ¬ (u.args.length : Int) = v.args.length by omega]
      · clear hrec ih
        have hu : i = u.args.length := by omega
        have hv : i = v.args.length := by omega
        have hl : u.args.length = v.args.length := by omega
        rw [cmpL_end hlt hlt', if_pos rfl]
        simp [round, Tryz.f24, evOps_cons, wantA_some, argsTm, ann_keep_24, ann_recov_24, ann_reg_24, reg24, ann_loop_24, loop24, headId, endRound_L, endRound_S, ann_draw_24, draw24, ann_dok_24, dok24, evDraw_cons, drawEnd, chkNeed, kindS, isEff, hlt, hlt', hl]
        refine loop_in (fun i : Nat => ⟨[(2, .ptr m.bx.length 0), (3, .ptr (m.bx.length + 1) 0), (7, .int .i64 i)], ⟨m.bx ++ [u.cells, v.cells], m.rw⟩⟩)
          (fun i => some (.ret (.int .i64 (lexI (u.ws.drop i) (v.ws.drop i))), m)) (fun i => u.ws.length - i) (fun i => i ≤ u.ws.length ∧ i ≤ v.ws.length) 0 ?_ ?_ ?_ ?_ ?_
        · simp [hl]
        · simp
        · simp
        · intro x; simp [Tryz.f24, evOps_cons, wantA_some, argsTm, ann_keep_24, ann_recov_24, ann_reg_24, reg24, ann_loop_24, loop24, headId, endRound_L, endRound_S, ann_draw_24, draw24, ann_dok_24, dok24, evDraw_cons, drawEnd, chkNeed, kindS, isEff]
        · rintro j ⟨hj, hj'⟩ hrec
          by_cases hjt : j < u.ws.length
          · by_cases hjt' : j < v.ws.length
            · have w2 : IntKind.i64.wrap (j + 1) = j + 1 := wrap_id _ (by omega)
              have a1 := ints_at hjt
              have a2 := ints_at hjt'
              have h3 : j + 1 ≤ u.ws.length := by omega
              have h4 : j + 1 ≤ v.ws.length := by omega
              have he := ev_rorder u.ws[j] v.ws[j]
              rw [lexI_drop hjt hjt']
              generalize u.ws[j] = x at a1 he ⊢
              generalize v.ws[j] = y at a2 he ⊢
              by_cases hc : x = y
              · rw [if_pos (numC_zero.2 hc)]
                simp [round, Tryz.f24, evOps_cons, wantA_some, argsTm, ann_keep_24, ann_recov_24, ann_reg_24, reg24, ann_loop_24, loop24, headId, endRound_L, endRound_S, ann_draw_24, draw24, ann_dok_24, dok24, evDraw_cons, drawEnd, chkNeed, kindS, isEff, hjt, hjt', w2, h3, h4, a1, a2, hc, endRound_M]
                refine hrec (j + 1) _ _ ?_ ?_ ?_ ?_
                · omega
                · omega
                · simp
                · simp
              · clear hrec
                rw [if_neg (fun h => hc (numC_zero.1 h))]
                simp [round, Tryz.f24, evOps_cons, wantA_some, argsTm, ann_keep_24, ann_recov_24, ann_reg_24, reg24, ann_loop_24, loop24, headId, endRound_L, endRound_S, ann_draw_24, draw24, ann_dok_24, dok24, evDraw_cons, drawEnd, chkNeed, kindS, isEff, hjt, hjt', w2, h3, h4, a1, a2, hc, he]
            · clear hrec
              have he := ev_rorder u.ws.length v.ws.length
              have hnc : numC (u.ws.length : Int) v.ws.length = 1 := by unfold numC; rw [if_neg (by omega), if_pos (by omega)]
              rw [lexI_long hjt hjt']
              simp [round, Tryz.f24, evOps_cons, wantA_some, argsTm, ann_keep_24, ann_recov_24, ann_reg_24, reg24, ann_loop_24, loop24, headId, endRound_L, endRound_S, ann_draw_24, draw24, ann_dok_24, dok24, evDraw_cons, drawEnd, chkNeed, kindS, isEff, hjt, hjt', he, hnc]
          · by_cases hjt' : j < v.ws.length
            · clear hrec
              have he := ev_rorder u.ws.length v.ws.length
              have hnc : numC (u.ws.length : Int) v.ws.length = -1 := by unfold numC; rw [if_pos (by omega)]
              rw [lexI_short hjt hjt']
              simp [round, Tryz.f24, evOps_cons, wantA_some, argsTm, ann_keep_24, ann_recov_24, ann_reg_24, reg24, ann_loop_24, loop24, headId, endRound_L, endRound_S, ann_draw_24, draw24, ann_dok_24, dok24, evDraw_cons, drawEnd, chkNeed, kindS, isEff, hjt, hjt', he, hnc]
            · clear hrec
              have he := ev_rorder u.ws.length v.ws.length
              have hnc : numC (u.ws.length : Int) v.ws.length = 0 := by unfold numC; rw [if_neg (by omega), if_neg (by omega)]
              rw [lexI_end hjt hjt']
              simp [round, Tryz.f24, evOps_cons, wantA_some, argsTm, ann_keep_24, ann_recov_24, ann_reg_24, reg24, ann_loop_24, loop24, headId, endRound_L, endRound_S, ann_draw_24, draw24, ann_dok_24, dok24, evDraw_cons, drawEnd, chkNeed, kindS, isEff, hjt, hjt', he, hnc]
theorem ev_RSameV (u v : Val) (hb : u.nodes ≤ 1000000000) (hs : slimV u) (m : Mem) : evCall C0 14 [.agg u.cells, .agg v.cells] m = some (.ret (.bool (decide (cmpV u v = 0))), m) := by
  rw [evCall_body C0 (C0_ext _ (by decide)) (by rw [C0_P]; exact Tryz.func14) rfl (by rw [C0_ann]; rfl) (by decide) (by simp [Tryz.f14])]
  have he := ev_RCompare u.nodes u (Nat.le_refl _) hb hs v
  simp at he
  simp [Tryz.f14, evOps_cons, wantA_some, argsTm, ann_keep_14, ann_recov_14, ann_reg_14, reg14, he]
end AE
end Go.Proofs.YthoomlenmgdebaaGreatDoor

/- The functors of a value's arguments; evaluated. -/
set_option linter.unusedVariables false
set_option linter.unusedSimpArgs false
namespace Go.Proofs.YthoomlenmgdebaaGreatDoor
namespace AE
open Go

/-- The functors of the arguments. -/
def partsL (f : Fun) (v : Val) : List Fun := if f.kind = 0 ∨ f.kind = 1 then [] else if f.kind = 2 then f.args else if f.kind = 3 then (if 0 ≤ v.num ∧ v.num ≤ 1 then [argF f v.num 0] else []) else if f.kind = 4 then List.replicate f.num.toNat (f.args.getD 0 fun0) else List.replicate v.args.length (f.args.getD 0 fun0)
def partsB (f : Fun) (v : Val) : Bool := decide ((partsL f v).length = v.args.length) && (!decide (f.kind = 3) || decide (0 ≤ v.num ∧ v.num ≤ 1))
def repA (n i : Nat) : A := if i = 0 then .nils else .sl n (i * 3) 0 i
def repR (g : Fun) (i : Nat) : List Row := if i = 0 then [] else [⟨24, Fun.cellsL (List.replicate i g)⟩]
theorem cells_rep (g : Fun) (i : Nat) : Fun.cellsL (List.replicate (i + 1) g) = Fun.cellsL (List.replicate i g) ++ g.cells := by
  rw [List.replicate_succ', Fun.cellsL_append, Fun.cellsL, Fun.cellsL_nil, List.append_nil]
set_option maxHeartbeats 4000000 in
theorem ev_Parts (f : Fun) (v : Val) (hf : shapedF f = true) (hb : v.nodes ≤ 1000000000) (m : Mem) : evCall C0 37 [.agg f.cells, .agg v.cells] m = some (.ret (.tup [.isl false (partsL f v).length (Fun.cellsL (partsL f v)), .bool (partsB f v)]), m) := by
  rw [evCall_body C0 (C0_ext _ (by decide)) (by rw [C0_P]; exact Tryz.func37) rfl (by rw [C0_ann]; rfl) (by decide) (by simp [Tryz.f37])]
  have wr2 : IntKind.i64.wrap 2 = 2 := by decide
  have hlen := v.length_args
  unfold partsB partsL
  rcases shaped_kind hf with ⟨hk, hfl⟩ | ⟨hk, hfl⟩ | ⟨hk, hfl⟩ | ⟨hk, hfl⟩ | ⟨hk, hfl⟩ | ⟨hk, hfl⟩ | ⟨hk, hfl⟩ | ⟨hk, hfl⟩
  · by_cases h0 : v.args.length = 0
    · simp [Tryz.f37, evOps_cons, wantA_some, argsTm, ann_keep_37, ann_recov_37, ann_reg_37, reg37, ann_loop_37, loop37, headId, endRound_L, endRound_S, ann_draw_37, draw37, ann_dok_37, dok37, evDraw_cons, drawEnd, chkNeed, kindS, isEff, hk, h0]
    · simp [Tryz.f37, evOps_cons, wantA_some, argsTm, ann_keep_37, ann_recov_37, ann_reg_37, reg37, ann_loop_37, loop37, headId, endRound_L, endRound_S, ann_draw_37, draw37, ann_dok_37, dok37, evDraw_cons, drawEnd, chkNeed, kindS, isEff, hk, h0, show ¬ (0 : Int) = v.args.length by omega, show ¬ 0 = v.args.length by omega]
  · by_cases h0 : v.args.length = 0
    · simp [Tryz.f37, evOps_cons, wantA_some, argsTm, ann_keep_37, ann_recov_37, ann_reg_37, reg37, ann_loop_37, loop37, headId, endRound_L, endRound_S, ann_draw_37, draw37, ann_dok_37, dok37, evDraw_cons, drawEnd, chkNeed, kindS, isEff, hk, h0]
    · simp [Tryz.f37, evOps_cons, wantA_some, argsTm, ann_keep_37, ann_recov_37, ann_reg_37, reg37, ann_loop_37, loop37, headId, endRound_L, endRound_S, ann_draw_37, draw37, ann_dok_37, dok37, evDraw_cons, drawEnd, chkNeed, kindS, isEff, hk, h0, show ¬ (0 : Int) = v.args.length by omega, show ¬ 0 = v.args.length by omega]
  · by_cases h0 : v.args.length = 2
    · simp [Tryz.f37, evOps_cons, wantA_some, argsTm, ann_keep_37, ann_recov_37, ann_reg_37, reg37, ann_loop_37, loop37, headId, endRound_L, endRound_S, ann_draw_37, draw37, ann_dok_37, dok37, evDraw_cons, drawEnd, chkNeed, kindS, isEff, hk, hfl, h0]
    · simp [Tryz.f37, evOps_cons, wantA_some, argsTm, ann_keep_37, ann_recov_37, ann_reg_37, reg37, ann_loop_37, loop37, headId, endRound_L, endRound_S, ann_draw_37, draw37, ann_dok_37, dok37, evDraw_cons, drawEnd, chkNeed, kindS, isEff, hk, hfl, h0, show ¬ (2 : Int) = v.args.length by omega, show ¬ 2 = v.args.length by omega]
  · by_cases h1 : v.num < 0
    · simp [Tryz.f37, evOps_cons, wantA_some, argsTm, ann_keep_37, ann_recov_37, ann_reg_37, reg37, ann_loop_37, loop37, headId, endRound_L, endRound_S, ann_draw_37, draw37, ann_dok_37, dok37, evDraw_cons, drawEnd, chkNeed, kindS, isEff, hk, hfl, h1, show ¬ 0 ≤ v.num by omega]
    by_cases h2 : 1 < v.num
    · simp [Tryz.f37, evOps_cons, wantA_some, argsTm, ann_keep_37, ann_recov_37, ann_reg_37, reg37, ann_loop_37, loop37, headId, endRound_L, endRound_S, ann_draw_37, draw37, ann_dok_37, dok37, evDraw_cons, drawEnd, chkNeed, kindS, isEff, hk, hfl, h1, h2, show ¬ v.num ≤ 1 by omega]
    rcases (show v.num = 0 ∨ v.num = 1 by omega) with cn | cn
    · have g0 : argF f v.num 0 = f.args[0] := by unfold argF; rw [if_neg (by omega), if_pos hk, cn, List.getD_eq_getElem?_getD, List.getElem?_eq_getElem (by simp; omega)]; rfl
      rw [cn] at g0
      have b1 := Fun.at_cellsL f.args 0 (by omega)
      simp at b1
      by_cases h0 : v.args.length = 1
      · simp [Tryz.f37, evOps_cons, wantA_some, argsTm, ann_keep_37, ann_recov_37, ann_reg_37, reg37, ann_loop_37, loop37, headId, endRound_L, endRound_S, ann_draw_37, draw37, ann_dok_37, dok37, evDraw_cons, drawEnd, chkNeed, kindS, isEff, hk, hfl, cn, h0, g0, b1, wr2, Fun.cellsL]
      · simp [Tryz.f37, evOps_cons, wantA_some, argsTm, ann_keep_37, ann_recov_37, ann_reg_37, reg37, ann_loop_37, loop37, headId, endRound_L, endRound_S, ann_draw_37, draw37, ann_dok_37, dok37, evDraw_cons, drawEnd, chkNeed, kindS, isEff, hk, hfl, cn, h0, g0, b1, wr2, Fun.cellsL, show ¬ (1 : Int) = v.args.length by omega, show ¬ 1 = v.args.length by omega]
    · have g0 : argF f v.num 0 = f.args[1] := by unfold argF; rw [if_neg (by omega), if_pos hk, cn, List.getD_eq_getElem?_getD, List.getElem?_eq_getElem (by simp; omega)]; rfl
      rw [cn] at g0
      have b1 := Fun.at_cellsL f.args 1 (by omega)
      simp at b1
      have b2 : List.drop 3 (List.take 6 (Fun.cellsL f.args)) = List.take 3 (List.drop 3 (Fun.cellsL f.args)) := by rw [List.drop_take]
      by_cases h0 : v.args.length = 1
      · simp [Tryz.f37, evOps_cons, wantA_some, argsTm, ann_keep_37, ann_recov_37, ann_reg_37, reg37, ann_loop_37, loop37, headId, endRound_L, endRound_S, ann_draw_37, draw37, ann_dok_37, dok37, evDraw_cons, drawEnd, chkNeed, kindS, isEff, hk, hfl, cn, h0, g0, b2, b1, wr2, Fun.cellsL]
      · simp [Tryz.f37, evOps_cons, wantA_some, argsTm, ann_keep_37, ann_recov_37, ann_reg_37, reg37, ann_loop_37, loop37, headId, endRound_L, endRound_S, ann_draw_37, draw37, ann_dok_37, dok37, evDraw_cons, drawEnd, chkNeed, kindS, isEff, hk, hfl, cn, h0, g0, b2, b1, wr2, Fun.cellsL, show ¬ (1 : Int) = v.args.length by omega, show ¬ 1 = v.args.length by omega]
  · have f0 : 0 < f.args.length := by omega
    have b1 := Fun.at_cellsL f.args 0 f0
    simp at b1
    have hfn := shaped_num hf
    obtain ⟨k, hkn⟩ : ∃ k : Nat, f.num = k := ⟨f.num.toNat, by omega⟩
    have gd : f.args.getD 0 fun0 = f.args[0] := by rw [List.getD_eq_getElem?_getD, List.getElem?_eq_getElem f0]; rfl
    rw [if_neg (by omega), if_neg (by omega), if_neg (by omega), if_pos hk, gd]
    simp [Tryz.f37, evOps_cons, wantA_some, argsTm, ann_keep_37, ann_recov_37, ann_reg_37, reg37, ann_loop_37, loop37, headId, endRound_L, endRound_S, ann_draw_37, draw37, ann_dok_37, dok37, evDraw_cons, drawEnd, chkNeed, kindS, isEff, hk, hkn]
    rw [loop_mp (fun i : Nat => ⟨[(2, .ptr m.bx.length 0), (3, .ptr (m.bx.length + 1) 0), (6, repA m.rw.length i), (60, .int .i64 k), (61, .int .i64 i)], ⟨m.bx ++ [f.cells, v.cells], m.rw ++ repR f.args[0] i⟩⟩)
      (fun i => some (.normal, ⟨[(2, .ptr m.bx.length 0), (3, .ptr (m.bx.length + 1) 0), (6, repA m.rw.length k), (60, .int .i64 k), (61, .int .i64 k), (62, .bool false)], ⟨m.bx ++ [f.cells, v.cells], m.rw ++ repR f.args[0] k⟩⟩)) (fun i => k - i) (fun i => i ≤ k) 0 ?_ rfl ?_ ?_ ?_]
    · obtain ⟨j, rfl⟩ : ∃ j, k = j + 1 := ⟨k - 1, by omega⟩
      have h8 : (Fun.cellsL (List.replicate (j + 1) f.args[0])).take ((j + 1) * 3) = Fun.cellsL (List.replicate (j + 1) f.args[0]) := List.take_of_length_le (by simp)
      by_cases h0 : j + 1 = v.args.length
      · have h0' : (j : Int) + 1 = v.args.length := by omega
        simp [Tryz.f37, evOps_cons, wantA_some, argsTm, ann_keep_37, ann_recov_37, ann_reg_37, reg37, ann_loop_37, loop37, headId, endRound_L, endRound_S, ann_draw_37, draw37, ann_dok_37, dok37, evDraw_cons, drawEnd, chkNeed, kindS, isEff, repA, repR, h0', h8]
        exact h0
      · have h0' : ¬ (j : Int) + 1 = v.args.length := by omega
        simp [Tryz.f37, evOps_cons, wantA_some, argsTm, ann_keep_37, ann_recov_37, ann_reg_37, reg37, ann_loop_37, loop37, headId, endRound_L, endRound_S, ann_draw_37, draw37, ann_dok_37, dok37, evDraw_cons, drawEnd, chkNeed, kindS, isEff, repA, repR, h0, h0', h8]
    · simp [Tryz.f37, evOps_cons, wantA_some, argsTm, ann_keep_37, ann_recov_37, ann_reg_37, reg37, ann_loop_37, loop37, headId, endRound_L, endRound_S, ann_draw_37, draw37, ann_dok_37, dok37, evDraw_cons, drawEnd, chkNeed, kindS, isEff, hk, hkn, repA, repR]
    · omega
    · intro x; simp [Tryz.f37, evOps_cons, wantA_some, argsTm, ann_keep_37, ann_recov_37, ann_reg_37, reg37, ann_loop_37, loop37, headId, endRound_L, endRound_S, ann_draw_37, draw37, ann_dok_37, dok37, evDraw_cons, drawEnd, chkNeed, kindS, isEff]
    · intro i hi hrec
      by_cases hlt : i < k
      · have w2 : IntKind.i64.wrap (i + 1) = i + 1 := wrap_id _ (by omega)
        have h4 : (i + 1) * 40 ≤ 70368744177664 := by omega
        have h5 : i + 1 ≤ 70368744177664 := by omega
        cases i with
        | zero =>
          simp [round, Tryz.f37, evOps_cons, wantA_some, argsTm, ann_keep_37, ann_recov_37, ann_reg_37, reg37, ann_loop_37, loop37, headId, endRound_L, endRound_S, ann_draw_37, draw37, ann_dok_37, dok37, evDraw_cons, drawEnd, chkNeed, kindS, isEff, hlt, f0, show 3 ≤ f.args.length * 3 by omega, b1, repA, repR, endRound_R0]
          refine hrec 1 _ _ ?_ ?_ ?_ ?_
          · omega
          · omega
          · simp [repA, repR, cells_rep, Fun.cellsL]
          · simp [repA, repR]
        | succ j =>
          have h6 : (j + 1 + 1) * 40 ≤ 70368744177664 := by omega
          have h7 : j + 1 + 1 ≤ 70368744177664 := by omega
          simp at w2
          simp [round, Tryz.f37, evOps_cons, wantA_some, argsTm, ann_keep_37, ann_recov_37, ann_reg_37, reg37, ann_loop_37, loop37, headId, endRound_L, endRound_S, ann_draw_37, draw37, ann_dok_37, dok37, evDraw_cons, drawEnd, chkNeed, kindS, isEff, show (j : Int) + 1 < k by omega, w2, h6, h7, f0, show 3 ≤ f.args.length * 3 by omega, b1, repA, repR, endRound_R]
          refine hrec (j + 1 + 1) _ _ ?_ ?_ ?_ ?_
          · omega
          · omega
          · simp [repA, repR, cells_rep, Fun.cellsL]
          · simp [repA, repR]
      · clear hrec
        have : i = k := by omega
        subst this
        cases i with
        | zero => omega
        | succ j => simp [round, Tryz.f37, evOps_cons, wantA_some, argsTm, ann_keep_37, ann_recov_37, ann_reg_37, reg37, ann_loop_37, loop37, headId, endRound_L, endRound_S, ann_draw_37, draw37, ann_dok_37, dok37, evDraw_cons, drawEnd, chkNeed, kindS, isEff, repA, repR]
  all_goals
    have f0 : 0 < f.args.length := by omega
    have b1 := Fun.at_cellsL f.args 0 f0
    simp at b1
    have gd : f.args.getD 0 fun0 = f.args[0] := by rw [List.getD_eq_getElem?_getD, List.getElem?_eq_getElem f0]; rfl
    rw [if_neg (by omega), if_neg (by omega), if_neg (by omega), if_neg (by omega), gd]
    simp [Tryz.f37, evOps_cons, wantA_some, argsTm, ann_keep_37, ann_recov_37, ann_reg_37, reg37, ann_loop_37, loop37, headId, endRound_L, endRound_S, ann_draw_37, draw37, ann_dok_37, dok37, evDraw_cons, drawEnd, chkNeed, kindS, isEff, hk]
    rw [loop_mp (fun i : Nat => ⟨[(2, .ptr m.bx.length 0), (3, .ptr (m.bx.length + 1) 0), (6, repA m.rw.length i), (9, .int .i64 v.args.length), (10, .int .i64 i)], ⟨m.bx ++ [f.cells, v.cells], m.rw ++ repR f.args[0] i⟩⟩)
      (fun i => some (.normal, ⟨[(2, .ptr m.bx.length 0), (3, .ptr (m.bx.length + 1) 0), (6, repA m.rw.length v.args.length), (9, .int .i64 v.args.length), (10, .int .i64 v.args.length), (11, .bool false)], ⟨m.bx ++ [f.cells, v.cells], m.rw ++ repR f.args[0] v.args.length⟩⟩)) (fun i => v.args.length - i) (fun i => i ≤ v.args.length) 0 ?_ rfl ?_ ?_ ?_]
    · cases hl : v.args.length with
      | zero => simp [Tryz.f37, evOps_cons, wantA_some, argsTm, ann_keep_37, ann_recov_37, ann_reg_37, reg37, ann_loop_37, loop37, headId, endRound_L, endRound_S, ann_draw_37, draw37, ann_dok_37, dok37, evDraw_cons, drawEnd, chkNeed, kindS, isEff, repA, repR, hl]
      | succ j =>
        have h8 : (Fun.cellsL (List.replicate (j + 1) f.args[0])).take ((j + 1) * 3) = Fun.cellsL (List.replicate (j + 1) f.args[0]) := List.take_of_length_le (by simp)
        simp [Tryz.f37, evOps_cons, wantA_some, argsTm, ann_keep_37, ann_recov_37, ann_reg_37, reg37, ann_loop_37, loop37, headId, endRound_L, endRound_S, ann_draw_37, draw37, ann_dok_37, dok37, evDraw_cons, drawEnd, chkNeed, kindS, isEff, repA, repR, hl, h8]
    · simp [Tryz.f37, evOps_cons, wantA_some, argsTm, ann_keep_37, ann_recov_37, ann_reg_37, reg37, ann_loop_37, loop37, headId, endRound_L, endRound_S, ann_draw_37, draw37, ann_dok_37, dok37, evDraw_cons, drawEnd, chkNeed, kindS, isEff, hk, repA, repR]
    · omega
    · intro x; simp [Tryz.f37, evOps_cons, wantA_some, argsTm, ann_keep_37, ann_recov_37, ann_reg_37, reg37, ann_loop_37, loop37, headId, endRound_L, endRound_S, ann_draw_37, draw37, ann_dok_37, dok37, evDraw_cons, drawEnd, chkNeed, kindS, isEff]
    · intro i hi hrec
      by_cases hlt : i < v.args.length
      · have w2 : IntKind.i64.wrap (i + 1) = i + 1 := wrap_id _ (by omega)
        cases i with
        | zero =>
          simp [round, Tryz.f37, evOps_cons, wantA_some, argsTm, ann_keep_37, ann_recov_37, ann_reg_37, reg37, ann_loop_37, loop37, headId, endRound_L, endRound_S, ann_draw_37, draw37, ann_dok_37, dok37, evDraw_cons, drawEnd, chkNeed, kindS, isEff, hlt, f0, show 3 ≤ f.args.length * 3 by omega, b1, repA, repR, endRound_R0]
          refine hrec 1 _ _ ?_ ?_ ?_ ?_
          · omega
          · omega
          · simp [repA, repR, cells_rep, Fun.cellsL]
          · simp [repA, repR]
        | succ j =>
          have h6 : (j + 1 + 1) * 40 ≤ 70368744177664 := by omega
          have h7 : j + 1 + 1 ≤ 70368744177664 := by omega
          simp at w2
          simp [round, Tryz.f37, evOps_cons, wantA_some, argsTm, ann_keep_37, ann_recov_37, ann_reg_37, reg37, ann_loop_37, loop37, headId, endRound_L, endRound_S, ann_draw_37, draw37, ann_dok_37, dok37, evDraw_cons, drawEnd, chkNeed, kindS, isEff, show (j : Int) + 1 < v.args.length by omega, w2, h6, h7, f0, show 3 ≤ f.args.length * 3 by omega, b1, repA, repR, endRound_R]
          refine hrec (j + 1 + 1) _ _ ?_ ?_ ?_ ?_
          · omega
          · omega
          · simp [repA, repR, cells_rep, Fun.cellsL]
          · simp [repA, repR]
      · clear hrec
        have hl : i = v.args.length := by omega
        subst hl
        cases hl : v.args.length with
        | zero => simp [round, Tryz.f37, evOps_cons, wantA_some, argsTm, ann_keep_37, ann_recov_37, ann_reg_37, reg37, ann_loop_37, loop37, headId, endRound_L, endRound_S, ann_draw_37, draw37, ann_dok_37, dok37, evDraw_cons, drawEnd, chkNeed, kindS, isEff, repA, repR]
        | succ j => simp [round, Tryz.f37, evOps_cons, wantA_some, argsTm, ann_keep_37, ann_recov_37, ann_reg_37, reg37, ann_loop_37, loop37, headId, endRound_L, endRound_S, ann_draw_37, draw37, ann_dok_37, dok37, evDraw_cons, drawEnd, chkNeed, kindS, isEff, repA, repR]
end AE
end Go.Proofs.YthoomlenmgdebaaGreatDoor
