/- Values: how many nodes, how they compare; evaluated. -/
import Derived.Test.YthoomlenmgdebaaGreatDoorAF0
import Derived.Test.YthoomlenmgdebaaGreatDoorV1
set_option linter.unusedVariables false
set_option linter.unusedSimpArgs false
namespace Go.Proofs.YthoomlenmgdebaaGreatDoor
namespace AE
open Go

mutual
def leftV : Val → Int → Int
  | .mk _ l _, most => max (leftVL l (most - 1)) 0
def leftVL : List Val → Int → Int
  | [], most => most
  | f :: r, most => if 0 < most then leftVL r (leftV f most) else most
end
theorem leftV_eq (f : Val) (most : Int) : leftV f most = max (leftVL f.args (most - 1)) 0 := by cases f; rw [leftV]; rfl
theorem leftVL_drop {l : List Val} {i : Nat} (h : i < l.length) (most : Int) : leftVL (l.drop i) most = if 0 < most then leftVL (l.drop (i + 1)) (leftV l[i] most) else most := by
  rw [List.drop_eq_getElem_cons h, leftVL]
mutual
theorem leftV_le : ∀ (f : Val) (most : Int), 0 ≤ leftV f most ∧ leftV f most ≤ max (most - 1) 0
  | .mk n l w, most => by
    rw [leftV]
    have := leftVL_le l (most - 1)
    omega
theorem leftVL_le : ∀ (l : List Val) (most : Int), leftVL l most ≤ max most 0
  | [], most => by rw [leftVL]; omega
  | f :: r, most => by
    rw [leftVL]
    split
    · have h1 := leftV_le f most
      have h2 := leftVL_le r (leftV f most)
      omega
    · omega
end
mutual
theorem leftV_nodes : ∀ (f : Val) (most : Int), 1 ≤ most → leftV f most = max (most - f.nodes) 0
  | .mk k l w, most, h => by
    rw [leftV, leftVL_nodes l (most - 1) (by omega), Val.nodes_eq]
    simp only [Val.args_mk]
    omega
theorem leftVL_nodes : ∀ (l : List Val) (q : Int), 0 ≤ q → leftVL l q = max (q - Val.nodesL l) 0
  | [], q, h => by rw [leftVL, Val.nodesL]; omega
  | f :: r, q, h => by
    rw [leftVL, Val.nodesL]
    split
    · rw [leftV_nodes f q (by omega), leftVL_nodes r _ (by omega)]
      omega
    · have := f.nodes_pos
      omega
end

set_option maxHeartbeats 1000000 in
theorem ev_leftV (N : Nat) : ∀ (f : Val), f.nodes ≤ N → ∀ (most : Int) (m : Mem), -1000000000 ≤ most → most ≤ 1000000000 → evCall C0 56 [.agg f.cells, .int .i64 most] m = some (.ret (.int .i64 (leftV f most)), m) := by
  induction N with
  | zero => intro f hN; have := f.nodes_pos; omega
  | succ N ih =>
  intro f hN most m h1 h2
  rw [evCall_body C0 (C0_ext _ (by decide)) (by rw [C0_P]; exact Tryz.func56) rfl (by rw [C0_ann]; rfl) (by decide) (by simp [Tryz.f56])]
  have w1 : IntKind.i64.wrap (most - 1) = most - 1 := wrap_id _ (by omega)
  simp [Tryz.f56, evOps_cons, wantA_some, argsTm, ann_keep_56, ann_recov_56, ann_reg_56, reg56, ann_loop_56, loop56, headId, endRound_L, endRound_S, w1]
  refine loop_in (fun x : Nat × Int => ⟨[(1, .int .i64 x.2), (2, .ptr m.bx.length 0), (5, .int .i64 x.1)], ⟨m.bx ++ [f.cells], m.rw⟩⟩)
    (fun x => some (.ret (.int .i64 (max (leftVL (f.args.drop x.1) x.2) 0)), m)) (fun x => f.args.length - x.1) (fun x => x.1 ≤ f.args.length ∧ x.2 ≤ 1000000000 - x.1 ∧ -1000000001 ≤ x.2) (0, most - 1) ?_ ?_ ?_ ?_ ?_
  · simp
  · simp [leftV_eq]
  · simp; omega
  · intro x; simp [Tryz.f56, evOps_cons, wantA_some, argsTm, ann_keep_56, ann_recov_56, ann_reg_56, reg56, ann_loop_56, loop56, headId, endRound_L, endRound_S]
  · rintro ⟨i, q⟩ hI hrec
    simp only at hI
    obtain ⟨hi, hq1, hq2⟩ := hI
    by_cases hlt : i < f.args.length
    · by_cases hq : 0 < q
      · have w2 : IntKind.i64.wrap (i + 1) = i + 1 := wrap_id _ (by omega)
        have he := ih f.args[i] (by have := Val.nodes_arg (List.getElem_mem hlt); omega) q
        simp at he
        have hle := leftV_le f.args[i] q
        clear ih
        have h3 : (i + 1) * 3 ≤ f.args.length * 3 := by omega
        simp [round, Tryz.f56, evOps_cons, wantA_some, argsTm, ann_keep_56, ann_recov_56, ann_reg_56, reg56, ann_loop_56, loop56, headId, endRound_L, endRound_S, hlt, hq, w2, h3, he _ (show -1000000000 ≤ q by omega) (show q ≤ 1000000000 by omega)]
        refine hrec (i + 1, leftV f.args[i] q) _ _ ?_ ?_ ?_ ?_
        · simp; omega
        · simp; omega
        · simp
        · simp only
          rw [leftVL_drop hlt, if_pos hq]
      · clear hrec ih
        simp [round, Tryz.f56, evOps_cons, wantA_some, argsTm, ann_keep_56, ann_recov_56, ann_reg_56, reg56, ann_loop_56, loop56, headId, endRound_L, endRound_S, hlt, hq]
        rw [leftVL_drop hlt, if_neg hq]
    · clear hrec ih
      simp [round, Tryz.f56, evOps_cons, wantA_some, argsTm, ann_keep_56, ann_recov_56, ann_reg_56, reg56, ann_loop_56, loop56, headId, endRound_L, endRound_S, hlt]
      rw [List.drop_eq_nil_of_le (by omega), leftVL]

mutual
def lightV : Val → Int → Bool
  | .mk _ l w, most => lightVL l most && decide ((w.length : Int) ≤ most)
def lightVL : List Val → Int → Bool
  | [], _ => true
  | f :: r, most => lightV f most && lightVL r most
end
theorem lightV_eq (f : Val) (most : Int) : lightV f most = (lightVL f.args most && decide ((f.ws.length : Int) ≤ most)) := by cases f; rw [lightV]; rfl
theorem lightVL_drop {l : List Val} {i : Nat} (h : i < l.length) (most : Int) : lightVL (l.drop i) most = (lightV l[i] most && lightVL (l.drop (i + 1)) most) := by
  rw [List.drop_eq_getElem_cons h, lightVL]
set_option maxHeartbeats 2000000 in
theorem ev_light (most : Int) (N : Nat) : ∀ (f : Val), f.nodes ≤ N → f.nodes ≤ 1000000000 → ∀ (m : Mem), evCall C0 59 [.agg f.cells, .int .i64 most] m = some (.ret (.bool (lightV f most)), m) := by
  induction N with
  | zero => intro f hN; have := f.nodes_pos; omega
  | succ N ih =>
  intro f hN hb m
  rw [evCall_body C0 (C0_ext _ (by decide)) (by rw [C0_P]; exact Tryz.func59) rfl (by rw [C0_ann]; rfl) (by decide) (by simp [Tryz.f59])]
  have hlen := f.length_args
  rw [lightV_eq]
  simp [Tryz.f59, evOps_cons, wantA_some, argsTm, ann_keep_59, ann_recov_59, ann_reg_59, reg59, ann_loop_59, loop59, headId, endRound_L, endRound_S]
  refine loop_in (fun i : Nat => ⟨[(1, .int .i64 most), (2, .ptr m.bx.length 0), (8, .isl false f.args.length (Val.cellsL f.args)), (9, .int .i64 f.args.length), (10, .int .i64 i)], ⟨m.bx ++ [f.cells], m.rw⟩⟩)
    (fun i => some (.ret (.bool (lightVL (f.args.drop i) most && decide ((f.ws.length : Int) ≤ most))), m)) (fun i => f.args.length - i) (fun i => i ≤ f.args.length) 0 ?_ ?_ ?_ ?_ ?_
  · simp
  · simp
  · omega
  · intro x; simp [Tryz.f59, evOps_cons, wantA_some, argsTm, ann_keep_59, ann_recov_59, ann_reg_59, reg59, ann_loop_59, loop59, headId, endRound_L, endRound_S]
  · intro i hi hrec
    by_cases hlt : i < f.args.length
    · have w2 : IntKind.i64.wrap (i + 1) = i + 1 := wrap_id _ (by omega)
      have hmem := Val.nodes_arg (List.getElem_mem hlt)
      have he := ih f.args[i] (by omega) (by omega)
      simp at he
      clear ih
      have h3 : (i + 1) * 3 ≤ f.args.length * 3 := by omega
      rw [lightVL_drop hlt]
      cases hc : lightV f.args[i] most
      · simp [hc] at he
        simp [round, Tryz.f59, evOps_cons, wantA_some, argsTm, ann_keep_59, ann_recov_59, ann_reg_59, reg59, ann_loop_59, loop59, headId, endRound_L, endRound_S, hlt, w2, h3, he]
      · simp [hc] at he
        simp [round, Tryz.f59, evOps_cons, wantA_some, argsTm, ann_keep_59, ann_recov_59, ann_reg_59, reg59, ann_loop_59, loop59, headId, endRound_L, endRound_S, hlt, w2, h3, he, endRound_M]
        refine hrec (i + 1) _ _ ?_ ?_ ?_ ?_
        · omega
        · omega
        · simp
        · simp
    · clear hrec ih
      simp [round, Tryz.f59, evOps_cons, wantA_some, argsTm, ann_keep_59, ann_recov_59, ann_reg_59, reg59, ann_loop_59, loop59, headId, endRound_L, endRound_S, hlt]
      rw [List.drop_eq_nil_of_le (by omega), lightVL]
      simp

/-- A value is small. -/
def fewV (v : Val) (most : Int) : Bool := decide (0 < leftV v (most + 1)) && lightV v most
theorem ev_FewV (f : Val) (most : Int) (m : Mem) (h1 : -100000000 ≤ most) (h2 : most ≤ 100000000) : evCall C0 28 [.agg f.cells, .int .i64 most] m = some (.ret (.bool (fewV f most)), m) := by
  rw [evCall_body C0 (C0_ext _ (by decide)) (by rw [C0_P]; exact Tryz.func28) rfl (by rw [C0_ann]; rfl) (by decide) (by simp [Tryz.f28])]
  have w1 : IntKind.i64.wrap (most + 1) = most + 1 := wrap_id _ (by omega)
  have he := ev_leftV f.nodes f (Nat.le_refl _) (most + 1)
  simp at he
  unfold fewV
  by_cases hm : 1 ≤ most + 1
  · have hn := leftV_nodes f (most + 1) hm
    by_cases hc : 0 < leftV f (most + 1)
    · have hl := ev_light most f.nodes f (Nat.le_refl _) (by omega)
      simp at hl
      simp [Tryz.f28, evOps_cons, wantA_some, argsTm, ann_keep_28, ann_recov_28, ann_reg_28, reg28, w1, he _ (show -1000000000 ≤ most + 1 by omega) (show most + 1 ≤ 1000000000 by omega), hc, hl]
    · simp [Tryz.f28, evOps_cons, wantA_some, argsTm, ann_keep_28, ann_recov_28, ann_reg_28, reg28, w1, he _ (show -1000000000 ≤ most + 1 by omega) (show most + 1 ≤ 1000000000 by omega), hc]
  · have hc : ¬ 0 < leftV f (most + 1) := by have := leftV_le f (most + 1); omega
    simp [Tryz.f28, evOps_cons, wantA_some, argsTm, ann_keep_28, ann_recov_28, ann_reg_28, reg28, w1, he _ (show -1000000000 ≤ most + 1 by omega) (show most + 1 ≤ 1000000000 by omega), hc]
theorem fewV_nodes {v : Val} {most : Int} (h0 : 0 ≤ most) (h : fewV v most = true) : (v.nodes : Int) ≤ most := by
  unfold fewV at h
  simp only [Bool.and_eq_true, decide_eq_true_eq] at h
  rw [leftV_nodes v _ (by omega)] at h
  omega

theorem ev_numC (a b : Int) (m : Mem) : evCall C0 52 [.int .i64 a, .int .i64 b] m = some (.ret (.int .i64 (numC a b)), m) := by
  rw [evCall_body C0 (C0_ext _ (by decide)) (by rw [C0_P]; exact Tryz.func52) rfl (by rw [C0_ann]; rfl) (by decide) (by simp [Tryz.f52])]
  unfold numC
  by_cases h1 : a < b
  · simp [Tryz.f52, evOps_cons, wantA_some, argsTm, ann_keep_52, ann_recov_52, ann_reg_52, reg52, h1]
  by_cases h2 : b < a
  · simp [Tryz.f52, evOps_cons, wantA_some, argsTm, ann_keep_52, ann_recov_52, ann_reg_52, reg52, h1, h2]
  simp [Tryz.f52, evOps_cons, wantA_some, argsTm, ann_keep_52, ann_recov_52, ann_reg_52, reg52, h1, h2]

set_option maxHeartbeats 2000000 in
theorem ev_CmpInts (f1 f2 : Bool) (a b : List Int) (ha : a.length ≤ 1000000000) (m : Mem) : evCall C0 85 [.isl f1 a.length (ints a), .isl f2 b.length (ints b), .fn 52 []] m = some (.ret (.int .i64 (lexI a b)), m) := by
  rw [evCall_body C0 (C0_ext _ (by decide)) (by rw [C0_P]; exact Tryz.func85) rfl (by rw [C0_ann]; rfl) (by decide) (by simp [Tryz.f85])]
  simp [Tryz.f85, evOps_cons, wantA_some, argsTm, ann_keep_85, ann_recov_85, ann_reg_85, reg85, ann_loop_85, loop85, headId, endRound_L, endRound_S]
  refine loop_in (fun i : Nat => ⟨[(0, .isl f1 a.length (ints a)), (1, .isl f2 b.length (ints b)), (2, .fn 52 []), (11, .isl f1 a.length (ints a)), (12, .int .i64 a.length), (13, .int .i64 i)], m⟩)
    (fun i => some (.ret (.int .i64 (lexI (a.drop i) (b.drop i))), m)) (fun i => a.length - i) (fun i => i ≤ a.length ∧ i ≤ b.length) 0 ?_ ?_ ?_ ?_ ?_
  · simp
  · simp
  · simp
  · intro x; simp [Tryz.f85, evOps_cons, wantA_some, argsTm, ann_keep_85, ann_recov_85, ann_reg_85, reg85, ann_loop_85, loop85, headId, endRound_L, endRound_S]
  · rintro i ⟨hi, hi'⟩ hrec
    by_cases hlt : i < a.length
    · have w2 : IntKind.i64.wrap (i + 1) = i + 1 := wrap_id _ (by omega)
      have h3 : i + 1 ≤ a.length := by omega
      by_cases hlt' : i < b.length
      · have h3' : i + 1 ≤ b.length := by omega
        have h4 : ¬ b.length ≤ i := by omega
        rw [lexI_drop hlt hlt']
        by_cases hc : numC a[i] b[i] = 0
        · simp [round, Tryz.f85, evOps_cons, wantA_some, argsTm, ann_keep_85, ann_recov_85, ann_reg_85, reg85, ann_loop_85, loop85, headId, endRound_L, endRound_S, hlt, hlt', w2, h3, h3', h4, ints_at hlt, ints_at hlt', ev_numC, hc, endRound_M0]
          refine hrec (i + 1) _ _ ?_ ?_ ?_ ?_
          · omega
          · omega
          · simp
          · simp
        · simp [round, Tryz.f85, evOps_cons, wantA_some, argsTm, ann_keep_85, ann_recov_85, ann_reg_85, reg85, ann_loop_85, loop85, headId, endRound_L, endRound_S, hlt, hlt', w2, h3, h3', h4, ints_at hlt, ints_at hlt', ev_numC, hc]
      · have h4 : b.length ≤ i := by omega
        rw [lexI_long hlt hlt']
        simp [round, Tryz.f85, evOps_cons, wantA_some, argsTm, ann_keep_85, ann_recov_85, ann_reg_85, reg85, ann_loop_85, loop85, headId, endRound_L, endRound_S, hlt, w2, h3, h4, ints_at hlt]
    · clear hrec
      by_cases hlt' : i < b.length
      · have h5 : a.length < b.length := by omega
        rw [lexI_short hlt hlt']
        simp [round, Tryz.f85, evOps_cons, wantA_some, argsTm, ann_keep_85, ann_recov_85, ann_reg_85, reg85, ann_loop_85, loop85, headId, endRound_L, endRound_S, hlt, h5]
      · have h5 : ¬ a.length < b.length := by omega
        rw [lexI_end hlt hlt']
        simp [round, Tryz.f85, evOps_cons, wantA_some, argsTm, ann_keep_85, ann_recov_85, ann_reg_85, reg85, ann_loop_85, loop85, headId, endRound_L, endRound_S, hlt, h5]
theorem ev_orderInts (f1 f2 : Bool) (a b : List Int) (ha : a.length ≤ 1000000000) (m : Mem) : evCall C0 54 [.isl f1 a.length (ints a), .isl f2 b.length (ints b), .fn 52 []] m = some (.ret (.int .i64 (lexI a b)), m) := by
  rw [evCall_body C0 (C0_ext _ (by decide)) (by rw [C0_P]; exact Tryz.func54) rfl (by rw [C0_ann]; rfl) (by decide) (by simp [Tryz.f54])]
  simp [Tryz.f54, evOps_cons, wantA_some, argsTm, ann_keep_54, ann_recov_54, ann_reg_54, reg54, ev_CmpInts f1 f2 a b ha]

set_option maxHeartbeats 2000000 in
theorem ev_CmpVals (a b : List Val) (f1 f2 : Bool) (ha : a.length ≤ 1000000000) (ih : ∀ u, u ∈ a → ∀ (v : Val) (m : Mem), evCall C0 23 [.agg u.cells, .agg v.cells] m = some (.ret (.int .i64 (cmpV u v)), m)) (m : Mem) :
    evCall C0 84 [.isl f1 a.length (Val.cellsL a), .isl f2 b.length (Val.cellsL b), .fn 23 []] m = some (.ret (.int .i64 (cmpL a b)), m) := by
  rw [evCall_body C0 (C0_ext _ (by decide)) (by rw [C0_P]; exact Tryz.func84) rfl (by rw [C0_ann]; rfl) (by decide) (by simp [Tryz.f84])]
  simp [Tryz.f84, evOps_cons, wantA_some, argsTm, ann_keep_84, ann_recov_84, ann_reg_84, reg84, ann_loop_84, loop84, headId, endRound_L, endRound_S]
  refine loop_in (fun i : Nat => ⟨[(0, .isl f1 a.length (Val.cellsL a)), (1, .isl f2 b.length (Val.cellsL b)), (2, .fn 23 []), (11, .isl f1 a.length (Val.cellsL a)), (12, .int .i64 a.length), (13, .int .i64 i)], m⟩)
    (fun i => some (.ret (.int .i64 (cmpL (a.drop i) (b.drop i))), m)) (fun i => a.length - i) (fun i => i ≤ a.length ∧ i ≤ b.length) 0 ?_ ?_ ?_ ?_ ?_
  · simp
  · simp
  · simp
  · intro x; simp [Tryz.f84, evOps_cons, wantA_some, argsTm, ann_keep_84, ann_recov_84, ann_reg_84, reg84, ann_loop_84, loop84, headId, endRound_L, endRound_S]
  · rintro i ⟨hi, hi'⟩ hrec
    by_cases hlt : i < a.length
    · have w2 : IntKind.i64.wrap (i + 1) = i + 1 := wrap_id _ (by omega)
      have h3 : (i + 1) * 3 ≤ a.length * 3 := by omega
      by_cases hlt' : i < b.length
      · have h3' : (i + 1) * 3 ≤ b.length * 3 := by omega
        have h4 : ¬ b.length ≤ i := by omega
        have he := ih a[i] (List.getElem_mem hlt) b[i]
        simp at he
        rw [cmpL_drop hlt hlt']
        by_cases hc : cmpV a[i] b[i] = 0
        · simp [hc] at he
          simp [round, Tryz.f84, evOps_cons, wantA_some, argsTm, ann_keep_84, ann_recov_84, ann_reg_84, reg84, ann_loop_84, loop84, headId, endRound_L, endRound_S, hlt, hlt', w2, h3, h3', h4, he, hc, endRound_M]
          refine hrec (i + 1) _ _ ?_ ?_ ?_ ?_
          · omega
          · omega
          · simp
          · simp
        · simp [round, Tryz.f84, evOps_cons, wantA_some, argsTm, ann_keep_84, ann_recov_84, ann_reg_84, reg84, ann_loop_84, loop84, headId, endRound_L, endRound_S, hlt, hlt', w2, h3, h3', h4, he, hc]
      · have h4 : b.length ≤ i := by omega
        rw [cmpL_long hlt hlt']
        simp [round, Tryz.f84, evOps_cons, wantA_some, argsTm, ann_keep_84, ann_recov_84, ann_reg_84, reg84, ann_loop_84, loop84, headId, endRound_L, endRound_S, hlt, w2, h3, h4]
    · clear hrec
      by_cases hlt' : i < b.length
      · have h5 : a.length < b.length := by omega
        rw [cmpL_short hlt hlt']
        simp [round, Tryz.f84, evOps_cons, wantA_some, argsTm, ann_keep_84, ann_recov_84, ann_reg_84, reg84, ann_loop_84, loop84, headId, endRound_L, endRound_S, hlt, h5]
      · have h5 : ¬ a.length < b.length := by omega
        rw [cmpL_end hlt hlt']
        simp [round, Tryz.f84, evOps_cons, wantA_some, argsTm, ann_keep_84, ann_recov_84, ann_reg_84, reg84, ann_loop_84, loop84, headId, endRound_L, endRound_S, hlt, h5]
mutual
/-- No node has very many weights. -/
def slimV : Val → Prop
  | .mk _ l w => w.length ≤ 1000000000 ∧ slimL l
def slimL : List Val → Prop
  | [] => True
  | f :: r => slimV f ∧ slimL r
end
theorem slimV_eq (f : Val) : slimV f = (f.ws.length ≤ 1000000000 ∧ slimL f.args) := by cases f; rw [slimV]; rfl
theorem slimL_mem : ∀ {l : List Val} {f : Val}, slimL l → f ∈ l → slimV f
  | g :: r, f, h, hm => by
    rw [slimL] at h
    rcases List.mem_cons.1 hm with rfl | hm
    · exact h.1
    · exact slimL_mem h.2 hm
mutual
theorem light_slim {most : Int} (h : most ≤ 1000000000) : ∀ v : Val, lightV v most = true → slimV v
  | .mk n l w, hl => by
    rw [lightV, Bool.and_eq_true, decide_eq_true_eq] at hl
    rw [slimV]
    exact ⟨by omega, lightL_slim h l hl.1⟩
theorem lightL_slim {most : Int} (h : most ≤ 1000000000) : ∀ l : List Val, lightVL l most = true → slimL l
  | [], _ => by rw [slimL]; trivial
  | f :: r, hl => by
    rw [lightVL, Bool.and_eq_true] at hl
    rw [slimL]
    exact ⟨light_slim h f hl.1, lightL_slim h r hl.2⟩
end
theorem ev_orderVals (a b : List Val) (f1 f2 : Bool) (ha : a.length ≤ 1000000000) (ih : ∀ u, u ∈ a → ∀ (v : Val) (m : Mem), evCall C0 23 [.agg u.cells, .agg v.cells] m = some (.ret (.int .i64 (cmpV u v)), m)) (m : Mem) :
    evCall C0 53 [.isl f1 a.length (Val.cellsL a), .isl f2 b.length (Val.cellsL b), .fn 23 []] m = some (.ret (.int .i64 (cmpL a b)), m) := by
  rw [evCall_body C0 (C0_ext _ (by decide)) (by rw [C0_P]; exact Tryz.func53) rfl (by rw [C0_ann]; rfl) (by decide) (by simp [Tryz.f53])]
  simp [Tryz.f53, evOps_cons, wantA_some, argsTm, ann_keep_53, ann_recov_53, ann_reg_53, reg53, ev_CmpVals a b f1 f2 ha ih]
set_option maxHeartbeats 2000000 in
theorem ev_Compare (N : Nat) : ∀ (u : Val), u.nodes ≤ N → u.nodes ≤ 1000000000 → slimV u → ∀ (v : Val) (m : Mem), evCall C0 23 [.agg u.cells, .agg v.cells] m = some (.ret (.int .i64 (cmpV u v)), m) := by
  induction N with
  | zero => intro f hN; have := f.nodes_pos; omega
  | succ N ih =>
  intro u hN hb hs v m
  have hlen := u.length_args
  rw [slimV_eq] at hs
  have hargs := ev_orderVals u.args v.args false false (by omega) (fun x hx w m => ih x (by have := Val.nodes_arg hx; omega) (by have := Val.nodes_arg hx; omega) (slimL_mem hs.2 hx) w m)
  have hws := ev_orderInts false false u.ws v.ws hs.1
  clear ih
  rw [evCall_body C0 (C0_ext _ (by decide)) (by rw [C0_P]; exact Tryz.func23) rfl (by rw [C0_ann]; rfl) (by decide) (by simp [Tryz.f23])]
  rw [cmpV_eq]
  by_cases c1 : numC u.num v.num = 0
  · by_cases c2 : cmpL u.args v.args = 0
    · simp [c2] at hargs
      simp [Tryz.f23, evOps_cons, wantA_some, argsTm, ann_keep_23, ann_recov_23, ann_reg_23, reg23, ev_numC, c1, hargs, hws, c2]
    · simp [Tryz.f23, evOps_cons, wantA_some, argsTm, ann_keep_23, ann_recov_23, ann_reg_23, reg23, ev_numC, c1, hargs, c2]
  · simp [Tryz.f23, evOps_cons, wantA_some, argsTm, ann_keep_23, ann_recov_23, ann_reg_23, reg23, ev_numC, c1]
end AE
end Go.Proofs.YthoomlenmgdebaaGreatDoor
