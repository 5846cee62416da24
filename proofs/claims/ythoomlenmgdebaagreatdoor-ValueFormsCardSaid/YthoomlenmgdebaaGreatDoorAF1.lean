/- The reference's functions about functors: what they compute. -/
import Derived.Test.YthoomlenmgdebaaGreatDoorAF0
set_option linter.unusedVariables false
set_option linter.unusedSimpArgs false
namespace Go.Proofs.YthoomlenmgdebaaGreatDoor
namespace AE
open Go

def mostF (k : Int) : Int := if k = 1 then 16 else if k = 4 then 4 else 0
def arityF (k : Int) : Int := if k = 0 then 0 else if k = 1 then 0 else if k = 4 then 1 else if k = 5 then 1 else if k = 6 then 1 else if k = 7 then 1 else if k = 2 then 2 else if k = 3 then 2 else -1

theorem ev_Most (k : Int) (m : Mem) : evCall C0 89 [.int .i64 k] m = some (.ret (.int .i64 (mostF k)), m) := by
  rw [evCall_body C0 (C0_ext _ (by decide)) (by rw [C0_P]; exact Tryz.func89) rfl (by rw [C0_ann]; rfl) (by decide) (by simp [Tryz.f89])]
  unfold mostF
  by_cases h1 : k = 1
  · simp [Tryz.f89, evOps_cons, wantA_some, argsTm, ann_keep_89, ann_recov_89, ann_reg_89, reg89, h1]
  by_cases h2 : k = 4
  · simp [Tryz.f89, evOps_cons, wantA_some, argsTm, ann_keep_89, ann_recov_89, ann_reg_89, reg89, h2]
  simp [Tryz.f89, evOps_cons, wantA_some, argsTm, ann_keep_89, ann_recov_89, ann_reg_89, reg89, h1, h2]
theorem ev_Arity (k : Int) (m : Mem) : evCall C0 90 [.int .i64 k] m = some (.ret (.int .i64 (arityF k)), m) := by
  rw [evCall_body C0 (C0_ext _ (by decide)) (by rw [C0_P]; exact Tryz.func90) rfl (by rw [C0_ann]; rfl) (by decide) (by simp [Tryz.f90])]
  unfold arityF
  by_cases h0 : k = 0
  · simp [Tryz.f90, evOps_cons, wantA_some, argsTm, ann_keep_90, ann_recov_90, ann_reg_90, reg90, h0]
  by_cases h1 : k = 1
  · simp [Tryz.f90, evOps_cons, wantA_some, argsTm, ann_keep_90, ann_recov_90, ann_reg_90, reg90, h1]
  by_cases h4 : k = 4
  · simp [Tryz.f90, evOps_cons, wantA_some, argsTm, ann_keep_90, ann_recov_90, ann_reg_90, reg90, h4]
  by_cases h5 : k = 5
  · simp [Tryz.f90, evOps_cons, wantA_some, argsTm, ann_keep_90, ann_recov_90, ann_reg_90, reg90, h5]
  by_cases h6 : k = 6
  · simp [Tryz.f90, evOps_cons, wantA_some, argsTm, ann_keep_90, ann_recov_90, ann_reg_90, reg90, h6]
  by_cases h7 : k = 7
  · simp [Tryz.f90, evOps_cons, wantA_some, argsTm, ann_keep_90, ann_recov_90, ann_reg_90, reg90, h7]
  by_cases h2 : k = 2
  · simp [Tryz.f90, evOps_cons, wantA_some, argsTm, ann_keep_90, ann_recov_90, ann_reg_90, reg90, h2]
  by_cases h3 : k = 3
  · simp [Tryz.f90, evOps_cons, wantA_some, argsTm, ann_keep_90, ann_recov_90, ann_reg_90, reg90, h3]
  simp [Tryz.f90, evOps_cons, wantA_some, argsTm, ann_keep_90, ann_recov_90, ann_reg_90, reg90, h0, h1, h2, h3, h4, h5, h6, h7]

mutual
def leftF : Fun → Int → Int
  | .mk _ _ l, most => max (leftL l (most - 1)) 0
def leftL : List Fun → Int → Int
  | [], most => most
  | f :: r, most => if 0 < most then leftL r (leftF f most) else most
end
theorem leftF_eq (f : Fun) (most : Int) : leftF f most = max (leftL f.args (most - 1)) 0 := by cases f; rw [leftF]; rfl
theorem leftL_drop {l : List Fun} {i : Nat} (h : i < l.length) (most : Int) : leftL (l.drop i) most = if 0 < most then leftL (l.drop (i + 1)) (leftF l[i] most) else most := by
  rw [List.drop_eq_getElem_cons h, leftL]
mutual
theorem leftF_le : ∀ (f : Fun) (most : Int), 0 ≤ leftF f most ∧ leftF f most ≤ max (most - 1) 0
  | .mk k n l, most => by
    rw [leftF]
    have := leftL_le l (most - 1)
    omega
theorem leftL_le : ∀ (l : List Fun) (most : Int), leftL l most ≤ max most 0
  | [], most => by rw [leftL]; omega
  | f :: r, most => by
    rw [leftL]
    split
    · have h1 := leftF_le f most
      have h2 := leftL_le r (leftF f most)
      omega
    · omega
end

set_option maxHeartbeats 1000000 in
theorem ev_left (N : Nat) : ∀ (f : Fun), f.nodes ≤ N → ∀ (most : Int) (m : Mem), -1000000000 ≤ most → most ≤ 1000000000 → evCall C0 60 [.agg f.cells, .int .i64 most] m = some (.ret (.int .i64 (leftF f most)), m) := by
  induction N with
  | zero => intro f hN; have := f.nodes_pos; omega
  | succ N ih =>
  intro f hN most m h1 h2
  rw [evCall_body C0 (C0_ext _ (by decide)) (by rw [C0_P]; exact Tryz.func60) rfl (by rw [C0_ann]; rfl) (by decide) (by simp [Tryz.f60])]
  have w1 : IntKind.i64.wrap (most - 1) = most - 1 := wrap_id _ (by omega)
  simp [Tryz.f60, evOps_cons, wantA_some, argsTm, ann_keep_60, ann_recov_60, ann_reg_60, reg60, ann_loop_60, loop60, headId, endRound_L, endRound_S, w1]
  refine loop_in (fun x : Nat × Int => ⟨[(1, .int .i64 x.2), (2, .ptr m.bx.length 0), (5, .int .i64 x.1)], ⟨m.bx ++ [f.cells], m.rw⟩⟩)
    (fun x => some (.ret (.int .i64 (max (leftL (f.args.drop x.1) x.2) 0)), m)) (fun x => f.args.length - x.1) (fun x => x.1 ≤ f.args.length ∧ x.2 ≤ 1000000000 - x.1 ∧ -1000000001 ≤ x.2) (0, most - 1) ?_ ?_ ?_ ?_ ?_
  · simp
  · simp [leftF_eq]
  · simp; omega
  · intro x; simp [Tryz.f60, evOps_cons, wantA_some, argsTm, ann_keep_60, ann_recov_60, ann_reg_60, reg60, ann_loop_60, loop60, headId, endRound_L, endRound_S]
  · rintro ⟨i, q⟩ hI hrec
    simp only at hI
    obtain ⟨hi, hq1, hq2⟩ := hI
    by_cases hlt : i < f.args.length
    · by_cases hq : 0 < q
      · have w2 : IntKind.i64.wrap (i + 1) = i + 1 := wrap_id _ (by omega)
        have he := ih f.args[i] (by have := Fun.nodes_arg (List.getElem_mem hlt); omega) q
        simp at he
        have hle := leftF_le f.args[i] q
        clear ih
        have h3 : (i + 1) * 3 ≤ f.args.length * 3 := by omega
        simp [round, Tryz.f60, evOps_cons, wantA_some, argsTm, ann_keep_60, ann_recov_60, ann_reg_60, reg60, ann_loop_60, loop60, headId, endRound_L, endRound_S, hlt, hq, w2, h3, he _ (show -1000000000 ≤ q by omega) (show q ≤ 1000000000 by omega)]
        refine hrec (i + 1, leftF f.args[i] q) _ _ ?_ ?_ ?_ ?_
        · simp; omega
        · simp; omega
        · simp
        · simp only
          rw [leftL_drop hlt, if_pos hq]
      · clear hrec ih
        simp [round, Tryz.f60, evOps_cons, wantA_some, argsTm, ann_keep_60, ann_recov_60, ann_reg_60, reg60, ann_loop_60, loop60, headId, endRound_L, endRound_S, hlt, hq]
        rw [leftL_drop hlt, if_neg hq]
    · clear hrec ih
      simp [round, Tryz.f60, evOps_cons, wantA_some, argsTm, ann_keep_60, ann_recov_60, ann_reg_60, reg60, ann_loop_60, loop60, headId, endRound_L, endRound_S, hlt]
      rw [List.drop_eq_nil_of_le (by omega), leftL]

theorem ev_Few (f : Fun) (most : Int) (m : Mem) (h1 : -100000000 ≤ most) (h2 : most ≤ 100000000) : evCall C0 29 [.agg f.cells, .int .i64 most] m = some (.ret (.bool (decide (0 < leftF f (most + 1)))), m) := by
  rw [evCall_body C0 (C0_ext _ (by decide)) (by rw [C0_P]; exact Tryz.func29) rfl (by rw [C0_ann]; rfl) (by decide) (by simp [Tryz.f29])]
  have w1 : IntKind.i64.wrap (most + 1) = most + 1 := wrap_id _ (by omega)
  have he := ev_left f.nodes f (Nat.le_refl _) (most + 1)
  simp at he
  simp [Tryz.f29, evOps_cons, wantA_some, argsTm, ann_keep_29, ann_recov_29, ann_reg_29, reg29, w1, he _ (show -1000000000 ≤ most + 1 by omega) (show most + 1 ≤ 1000000000 by omega)]

mutual
/-- How deep. -/
def Fun.depth : Fun → Nat
  | .mk _ _ l => 1 + Fun.depthL l
def Fun.depthL : List Fun → Nat
  | [] => 0
  | f :: r => max f.depth (Fun.depthL r)
end
theorem Fun.depth_eq (f : Fun) : f.depth = 1 + Fun.depthL f.args := by cases f; rw [Fun.depth]; rfl
theorem Fun.depthL_drop {l : List Fun} {i : Nat} (h : i < l.length) : Fun.depthL (l.drop i) = max l[i].depth (Fun.depthL (l.drop (i + 1))) := by rw [List.drop_eq_getElem_cons h, Fun.depthL]
theorem Fun.nodesL_drop {l : List Fun} {i : Nat} (h : i < l.length) : Fun.nodesL (l.drop i) = l[i].nodes + Fun.nodesL (l.drop (i + 1)) := by rw [List.drop_eq_getElem_cons h, Fun.nodesL]
mutual
theorem Fun.depth_le : ∀ f : Fun, f.depth ≤ f.nodes
  | .mk _ _ l => by rw [Fun.depth, Fun.nodes]; have := Fun.depthL_le l; omega
theorem Fun.depthL_le : ∀ l : List Fun, Fun.depthL l ≤ Fun.nodesL l
  | [] => by rw [Fun.depthL]; omega
  | f :: r => by rw [Fun.depthL, Fun.nodesL]; have := Fun.depth_le f; have := Fun.depthL_le r; omega
end
set_option maxHeartbeats 1000000 in
theorem ev_RSize (N : Nat) : ∀ (f : Fun), f.nodes ≤ N → f.nodes ≤ 1000000000 → ∀ (m : Mem), evCall C0 66 [.agg f.cells] m = some (.ret (.tup [.int .i64 f.nodes, .int .i64 f.depth]), m) := by
  induction N with
  | zero => intro f hN; have := f.nodes_pos; omega
  | succ N ih =>
  intro f hN hb m
  rw [evCall_body C0 (C0_ext _ (by decide)) (by rw [C0_P]; exact Tryz.func66) rfl (by rw [C0_ann]; rfl) (by decide) (by simp [Tryz.f66])]
  simp [Tryz.f66, evOps_cons, wantA_some, argsTm, ann_keep_66, ann_recov_66, ann_reg_66, reg66, ann_loop_66, loop66, headId, endRound_L, endRound_S]
  have hn := Fun.nodes_eq f
  refine loop_in (fun x : Nat × Nat × Nat => ⟨[(2, .int .i64 x.2.1), (3, .int .i64 x.2.2), (9, .isl false f.args.length (Fun.cellsL f.args)), (10, .int .i64 f.args.length), (11, .int .i64 x.1)], ⟨m.bx ++ [f.cells], m.rw⟩⟩)
    (fun x => some (.ret (.tup [.int .i64 (x.2.1 + Fun.nodesL (f.args.drop x.1) : Nat), .int .i64 (1 + max x.2.2 (Fun.depthL (f.args.drop x.1)) : Nat)]), m)) (fun x => f.args.length - x.1) (fun x => x.1 ≤ f.args.length ∧ x.2.1 + Fun.nodesL (f.args.drop x.1) ≤ 1000000000 ∧ x.2.2 ≤ 1000000000) (0, 1, 0) ?_ ?_ ?_ ?_ ?_
  · simp
  · simp [Fun.depth_eq, hn]
  · simp; omega
  · intro x; simp [Tryz.f66, evOps_cons, wantA_some, argsTm, ann_keep_66, ann_recov_66, ann_reg_66, reg66, ann_loop_66, loop66, headId, endRound_L, endRound_S]
  · rintro ⟨i, a, b⟩ hI hrec
    simp only at hI
    obtain ⟨hi, ha, hbb⟩ := hI
    have hlen := f.length_args
    by_cases hlt : i < f.args.length
    · have w2 : IntKind.i64.wrap (i + 1) = i + 1 := wrap_id _ (by omega)
      have hmem := Fun.nodes_arg (List.getElem_mem hlt)
      have he := ih f.args[i] (by omega) (by omega)
      simp at he
      have hd := Fun.depth_le f.args[i]
      rw [Fun.nodesL_drop hlt] at ha
      have w3 : IntKind.i64.wrap (a + f.args[i].nodes) = a + f.args[i].nodes := wrap_id _ (by omega)
      clear ih
      have h3 : (i + 1) * 3 ≤ f.args.length * 3 := by omega
      simp [round, Tryz.f66, evOps_cons, wantA_some, argsTm, ann_keep_66, ann_recov_66, ann_reg_66, reg66, ann_loop_66, loop66, headId, endRound_L, endRound_S, hlt, w2, w3, h3, he]
      refine hrec (i + 1, a + f.args[i].nodes, max b f.args[i].depth) _ _ ?_ ?_ ?_ ?_
      · simp; omega
      · simp; omega
      · simp; omega
      · simp only
        rw [Fun.nodesL_drop hlt, Fun.depthL_drop hlt]
        simp; omega
    · clear hrec ih
      have w2 : IntKind.i64.wrap (b + 1) = b + 1 := wrap_id _ (by omega)
      simp [round, Tryz.f66, evOps_cons, wantA_some, argsTm, ann_keep_66, ann_recov_66, ann_reg_66, reg66, ann_loop_66, loop66, headId, endRound_L, endRound_S, hlt, w2]
      rw [List.drop_eq_nil_of_le (by omega), Fun.nodesL, Fun.depthL]
      simp
      omega

mutual
def shapedF : Fun → Bool
  | .mk k n l => decide ((l.length : Int) = arityF k) && decide (min 1 (mostF k) ≤ n) && decide (n ≤ mostF k) && shapedL l
def shapedL : List Fun → Bool
  | [] => true
  | f :: r => shapedF f && shapedL r
end
theorem shapedF_eq (f : Fun) : shapedF f = (decide ((f.args.length : Int) = arityF f.kind) && decide (min 1 (mostF f.kind) ≤ f.num) && decide (f.num ≤ mostF f.kind) && shapedL f.args) := by cases f; rw [shapedF]; rfl
theorem shapedL_drop {l : List Fun} {i : Nat} (h : i < l.length) : shapedL (l.drop i) = (shapedF l[i] && shapedL (l.drop (i + 1))) := by rw [List.drop_eq_getElem_cons h, shapedL]
theorem mostF_min (k : Int) : (if mostF k < 1 then mostF k else 1) = min 1 (mostF k) := by omega
set_option maxHeartbeats 1000000 in
theorem ev_shaped (N : Nat) : ∀ (f : Fun), f.nodes ≤ N → f.nodes ≤ 1000000000 → ∀ (m : Mem), evCall C0 67 [.agg f.cells] m = some (.ret (.bool (shapedF f)), m) := by
  induction N with
  | zero => intro f hN; have := f.nodes_pos; omega
  | succ N ih =>
  intro f hN hb m
  rw [evCall_body C0 (C0_ext _ (by decide)) (by rw [C0_P]; exact Tryz.func67) rfl (by rw [C0_ann]; rfl) (by decide) (by simp [Tryz.f67])]
  rw [shapedF_eq]
  by_cases c1 : (f.args.length : Int) = arityF f.kind
  case neg => simp [Tryz.f67, evOps_cons, wantA_some, argsTm, ann_keep_67, ann_recov_67, ann_reg_67, reg67, ann_loop_67, loop67, headId, endRound_L, endRound_S, ann_draw_67, draw67, ann_dok_67, dok67, evDraw_cons, drawEnd, chkNeed, kindS, isEff, ev_Most, ev_Arity, c1]
  by_cases c2 : f.num < min 1 (mostF f.kind)
  case pos =>
    have d2 : ¬ min 1 (mostF f.kind) ≤ f.num := by omega
    simp [Tryz.f67, evOps_cons, wantA_some, argsTm, ann_keep_67, ann_recov_67, ann_reg_67, reg67, ann_loop_67, loop67, headId, endRound_L, endRound_S, ann_draw_67, draw67, ann_dok_67, dok67, evDraw_cons, drawEnd, chkNeed, kindS, isEff, ev_Most, ev_Arity, eq_true c1, c2, d2]
  by_cases c3 : mostF f.kind < f.num
  case pos =>
    have d3 : ¬ f.num ≤ mostF f.kind := by omega
    simp [Tryz.f67, evOps_cons, wantA_some, argsTm, ann_keep_67, ann_recov_67, ann_reg_67, reg67, ann_loop_67, loop67, headId, endRound_L, endRound_S, ann_draw_67, draw67, ann_dok_67, dok67, evDraw_cons, drawEnd, chkNeed, kindS, isEff, ev_Most, ev_Arity, eq_true c1, c2, c3, d3]
  simp [Tryz.f67, evOps_cons, wantA_some, argsTm, ann_keep_67, ann_recov_67, ann_reg_67, reg67, ann_loop_67, loop67, headId, endRound_L, endRound_S, ann_draw_67, draw67, ann_dok_67, dok67, evDraw_cons, drawEnd, chkNeed, kindS, isEff, ev_Most, ev_Arity, eq_true c1, c2, c3]
  have d2 : min 1 (mostF f.kind) ≤ f.num := by omega
  have d3 : f.num ≤ mostF f.kind := by omega
  refine loop_in (fun i : Nat => ⟨[(32, .isl false f.args.length (Fun.cellsL f.args)), (33, .int .i64 f.args.length), (34, .int .i64 i)], ⟨m.bx ++ [f.cells], m.rw⟩⟩)
    (fun i => some (.ret (.bool (shapedL (f.args.drop i))), m)) (fun i => f.args.length - i) (fun i => i ≤ f.args.length) 0 ?_ ?_ ?_ ?_ ?_
  · simp
  · simp [c1, d2, d3]
  · simp
  · intro x; simp [Tryz.f67, evOps_cons, wantA_some, argsTm, ann_keep_67, ann_recov_67, ann_reg_67, reg67, ann_loop_67, loop67, headId, endRound_L, endRound_S, ann_draw_67, draw67, ann_dok_67, dok67, evDraw_cons, drawEnd, chkNeed, kindS, isEff]
  · intro i hi hrec
    have hlen := f.length_args
    by_cases hlt : i < f.args.length
    · have w2 : IntKind.i64.wrap (i + 1) = i + 1 := wrap_id _ (by omega)
      have hmem := Fun.nodes_arg (List.getElem_mem hlt)
      have he := ih f.args[i] (by omega) (by omega)
      simp at he
      clear ih
      have h3 : (i + 1) * 3 ≤ f.args.length * 3 := by omega
      rw [shapedL_drop hlt]
      cases hc : shapedF f.args[i]
      · simp [round, Tryz.f67, evOps_cons, wantA_some, argsTm, ann_keep_67, ann_recov_67, ann_reg_67, reg67, ann_loop_67, loop67, headId, endRound_L, endRound_S, ann_draw_67, draw67, ann_dok_67, dok67, evDraw_cons, drawEnd, chkNeed, kindS, isEff, hlt, w2, h3, he, hc]
      · simp [round, Tryz.f67, evOps_cons, wantA_some, argsTm, ann_keep_67, ann_recov_67, ann_reg_67, reg67, ann_loop_67, loop67, headId, endRound_L, endRound_S, ann_draw_67, draw67, ann_dok_67, dok67, evDraw_cons, drawEnd, chkNeed, kindS, isEff, hlt, w2, h3, he, hc]
        refine hrec (i + 1) _ _ ?_ ?_ ?_ ?_
        · first | omega | (simp; omega)
        · first | omega | (simp; omega)
        · simp
        · simp
    · clear hrec ih
      simp [round, Tryz.f67, evOps_cons, wantA_some, argsTm, ann_keep_67, ann_recov_67, ann_reg_67, reg67, ann_loop_67, loop67, headId, endRound_L, endRound_S, ann_draw_67, draw67, ann_dok_67, dok67, evDraw_cons, drawEnd, chkNeed, kindS, isEff, hlt]
      rw [List.drop_eq_nil_of_le (by omega), shapedL]

theorem ev_Is (f : Fun) (hb : f.nodes ≤ 1000000000) (m : Mem) : evCall C0 35 [.agg f.cells] m = some (.ret (.bool (decide (0 < leftF f 21) && decide (f.depth ≤ 8) && shapedF f)), m) := by
  rw [evCall_body C0 (C0_ext _ (by decide)) (by rw [C0_P]; exact Tryz.func35) rfl (by rw [C0_ann]; rfl) (by decide) (by simp [Tryz.f35])]
  have h1 := ev_Few f 20
  have h2 := ev_RSize f.nodes f (Nat.le_refl _) hb
  have h3 := ev_shaped f.nodes f (Nat.le_refl _) hb
  simp at h1 h2 h3
  by_cases c1 : 0 < leftF f 21
  case neg => simp [Tryz.f35, evOps_cons, wantA_some, argsTm, ann_keep_35, ann_recov_35, ann_reg_35, reg35, h1, c1]
  by_cases c2 : (f.depth : Int) ≤ 8
  · have d2 : f.depth ≤ 8 := by omega
    simp [Tryz.f35, evOps_cons, wantA_some, argsTm, ann_keep_35, ann_recov_35, ann_reg_35, reg35, h1, h2, h3, c1, c2, d2]
  · have d2 : ¬ f.depth ≤ 8 := by omega
    simp [Tryz.f35, evOps_cons, wantA_some, argsTm, ann_keep_35, ann_recov_35, ann_reg_35, reg35, h1, h2, h3, c1, c2, d2]

mutual
def sameF : Fun → Fun → Bool
  | .mk k n l, .mk k' n' l' => decide (k = k') && decide (n = n') && sameL l l'
def sameL : List Fun → List Fun → Bool
  | [], [] => true
  | f :: r, g :: s => sameF f g && sameL r s
  | _, _ => false
end
mutual
theorem sameF_iff : ∀ f g : Fun, sameF f g = true ↔ f = g
  | .mk k n l, .mk k' n' l' => by rw [sameF]; simp [sameL_iff l l', and_assoc]
theorem sameL_iff : ∀ f g : List Fun, sameL f g = true ↔ f = g
  | [], [] => by simp [sameL]
  | f :: r, g :: s => by rw [sameL]; simp [sameF_iff f g, sameL_iff r s]
  | [], g :: s => by simp [sameL]
  | f :: r, [] => by simp [sameL]
end
theorem sameF_eq (f g : Fun) : sameF f g = (decide (f.kind = g.kind) && decide (f.num = g.num) && sameL f.args g.args) := by cases f; cases g; rw [sameF]; rfl
theorem sameL_length : ∀ {l r : List Fun}, sameL l r = true → l.length = r.length := fun h => by rw [(sameL_iff _ _).1 h]
theorem sameL_drop {l r : List Fun} {i : Nat} (h : i < l.length) (h' : i < r.length) : sameL (l.drop i) (r.drop i) = (sameF l[i] r[i] && sameL (l.drop (i + 1)) (r.drop (i + 1))) := by
  rw [List.drop_eq_getElem_cons h, List.drop_eq_getElem_cons h', sameL]
theorem sameL_ne {l r : List Fun} (h : ¬ l.length = r.length) : sameL l r = false := by
  cases hs : sameL l r
  · rfl
  · exact absurd (sameL_length hs) h

end AE
end Go.Proofs.YthoomlenmgdebaaGreatDoor
