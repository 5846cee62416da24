/- The code's functions about functors, on. -/
import Derived.Test.YtdifmcdgnbnhiaaDoorAF3
set_option linter.unusedVariables false
set_option linter.unusedSimpArgs false
namespace Go.Proofs.YtdifmcdgnbnhiaaDoor
namespace AE
open Go

def okF (f : Fun) : Bool := (validF f 20 1).1
theorem ev_Valid (f : Fun) (hb : f.nodes ≤ 1000000000) (m : Mem) : evCall C0 26 [.agg f.cells] m = some (.ret (.bool (okF f)), m) := by
  rw [evCall_body C0 (C0_ext _) (by rw [C0_P]; exact Tryd.func26) rfl (by rw [C0_ann]; rfl) (by decide) (by simp [Tryd.f26])]
  have he := ev_valid (m.bx.length + 1) f.nodes f (Nat.le_refl _) hb 20 1 ⟨m.bx ++ [f.cells, [.int .i64 20]], m.rw⟩ (by omega) (by omega) (by omega) (by omega) (by simp)
  simp at he
  simp [Tryd.f26, evOps_cons, wantA_some, argsTm, ann_keep_26, ann_recov_26, ann_reg_26, reg26, he, okF]
theorem ev_Check (f : Fun) (hb : f.nodes ≤ 1000000000) (m : Mem) : evCall C0 16 [.agg f.cells] m = some (.ret (.int .i64 (if okF f then 0 else 10)), m) := by
  rw [evCall_body C0 (C0_ext _) (by rw [C0_P]; exact Tryd.func16) rfl (by rw [C0_ann]; rfl) (by decide) (by simp [Tryd.f16])]
  have he := ev_Valid f hb
  simp at he
  cases hc : okF f <;> simp [hc] at he <;> simp [Tryd.f16, evOps_cons, wantA_some, argsTm, ann_keep_16, ann_recov_16, ann_reg_16, reg16, he]

set_option maxHeartbeats 1000000 in
theorem ev_Size (N : Nat) : ∀ (f : Fun), f.nodes ≤ N → f.nodes ≤ 1000000000 → ∀ (m : Mem), evCall C0 20 [.agg f.cells] m = some (.ret (.tup [.int .i64 f.nodes, .int .i64 f.depth]), m) := by
  induction N with
  | zero => intro f hN; have := f.nodes_pos; omega
  | succ N ih =>
  intro f hN hb m
  rw [evCall_body C0 (C0_ext _) (by rw [C0_P]; exact Tryd.func20) rfl (by rw [C0_ann]; rfl) (by decide) (by simp [Tryd.f20])]
  simp [Tryd.f20, evOps_cons, wantA_some, argsTm, ann_keep_20, ann_recov_20, ann_reg_20, reg20, ann_loop_20, loop20, headId, endRound_L, endRound_S]
  have hn := Fun.nodes_eq f
  refine loop_in (fun x : Nat × Nat × Nat => ⟨[(2, .int .i64 x.2.1), (3, .int .i64 x.2.2), (9, .isl false f.args.length (Fun.cellsL f.args)), (10, .int .i64 f.args.length), (11, .int .i64 x.1)], ⟨m.bx ++ [f.cells], m.rw⟩⟩)
    (fun x => some (.ret (.tup [.int .i64 (x.2.1 + Fun.nodesL (f.args.drop x.1) : Nat), .int .i64 (max x.2.2 (1 + Fun.depthL (f.args.drop x.1)) : Nat)]), m)) (fun x => f.args.length - x.1) (fun x => x.1 ≤ f.args.length ∧ x.2.1 + Fun.nodesL (f.args.drop x.1) ≤ 1000000000 ∧ x.2.2 ≤ 1000000001 ∧ 1 ≤ x.2.2) (0, 1, 1) ?_ ?_ ?_ ?_ ?_
  · simp
  · simp [Fun.depth_eq, hn]
  · simp; omega
  · intro x; simp [Tryd.f20, evOps_cons, wantA_some, argsTm, ann_keep_20, ann_recov_20, ann_reg_20, reg20, ann_loop_20, loop20, headId, endRound_L, endRound_S]
  · rintro ⟨i, a, b⟩ hI hrec
    simp only at hI
    obtain ⟨hi, ha, hbb, hb1⟩ := hI
    have hlen := f.length_args
    by_cases hlt : i < f.args.length
    · have w2 : IntKind.i64.wrap (i + 1) = i + 1 := wrap_id _ (by omega)
      have hmem := Fun.nodes_arg (List.getElem_mem hlt)
      have he := ih f.args[i] (by omega) (by omega)
      simp at he
      have hd := Fun.depth_le f.args[i]
      rw [Fun.nodesL_drop hlt] at ha
      have w3 : IntKind.i64.wrap (a + f.args[i].nodes) = a + f.args[i].nodes := wrap_id _ (by omega)
      have w4 : IntKind.i64.wrap (f.args[i].depth + 1) = f.args[i].depth + 1 := wrap_id _ (by omega)
      clear ih
      have h3 : (i + 1) * 3 ≤ f.args.length * 3 := by omega
      simp [round, Tryd.f20, evOps_cons, wantA_some, argsTm, ann_keep_20, ann_recov_20, ann_reg_20, reg20, ann_loop_20, loop20, headId, endRound_L, endRound_S, hlt, w2, w3, w4, h3, he]
      refine hrec (i + 1, a + f.args[i].nodes, max b (f.args[i].depth + 1)) _ _ ?_ ?_ ?_ ?_
      · simp; omega
      · simp; omega
      · simp; omega
      · simp only
        rw [Fun.nodesL_drop hlt, Fun.depthL_drop hlt]
        simp; omega
    · clear hrec ih
      simp [round, Tryd.f20, evOps_cons, wantA_some, argsTm, ann_keep_20, ann_recov_20, ann_reg_20, reg20, ann_loop_20, loop20, headId, endRound_L, endRound_S, hlt]
      rw [List.drop_eq_nil_of_le (by omega), Fun.nodesL, Fun.depthL]
      simp
      omega

set_option maxHeartbeats 1000000 in
theorem ev_Equal (l r : List Fun) (b b' : Bool) (hb : l.length ≤ 1000000000) (hS : ∀ (f g : Fun) (m : Mem), f ∈ l → evCall C0 22 [.agg f.cells, .agg g.cells] m = some (.ret (.bool (sameF f g)), m)) (m : Mem) :
    evCall C0 38 [.isl b l.length (Fun.cellsL l), .isl b' r.length (Fun.cellsL r), .fn 22 []] m = some (.ret (.bool (sameL l r)), m) := by
  rw [evCall_body C0 (C0_ext _) (by rw [C0_P]; exact Tryd.func38) rfl (by rw [C0_ann]; rfl) (by decide) (by simp [Tryd.f38])]
  by_cases c1 : l.length = r.length
  case neg =>
    have d1 : ¬ (l.length : Int) = r.length := by omega
    simp [Tryd.f38, evOps_cons, wantA_some, argsTm, ann_keep_38, ann_recov_38, ann_reg_38, reg38, ann_loop_38, loop38, headId, endRound_L, endRound_S, d1, sameL_ne c1]
  have d1 : (l.length : Int) = r.length := by omega
  simp [Tryd.f38, evOps_cons, wantA_some, argsTm, ann_keep_38, ann_recov_38, ann_reg_38, reg38, ann_loop_38, loop38, headId, endRound_L, endRound_S, eq_true d1]
  refine loop_in (fun i : Nat => ⟨[(1, .isl b' r.length (Fun.cellsL r)), (2, .fn 22 []), (15, .isl b l.length (Fun.cellsL l)), (16, .int .i64 l.length), (17, .int .i64 i)], m⟩)
    (fun i => some (.ret (.bool (sameL (l.drop i) (r.drop i))), m)) (fun i => l.length - i) (fun i => i ≤ l.length) 0 ?_ ?_ ?_ ?_ ?_
  · simp
  · simp
  · omega
  · intro x; simp [Tryd.f38, evOps_cons, wantA_some, argsTm, ann_keep_38, ann_recov_38, ann_reg_38, reg38, ann_loop_38, loop38, headId, endRound_L, endRound_S]
  · intro i hi hrec
    by_cases hlt : i < l.length
    · have w2 : IntKind.i64.wrap (i + 1) = i + 1 := wrap_id _ (by omega)
      have hlt' : i < r.length := by omega
      have he := fun m => hS l[i] r[i] m (List.getElem_mem hlt)
      simp at he
      have h3 : (i + 1) * 3 ≤ l.length * 3 := by omega
      have h3' : (i + 1) * 3 ≤ r.length * 3 := by omega
      rw [sameL_drop hlt hlt']
      cases hc : sameF l[i] r[i]
      · simp [hc] at he
        simp [round, Tryd.f38, evOps_cons, wantA_some, argsTm, ann_keep_38, ann_recov_38, ann_reg_38, reg38, ann_loop_38, loop38, headId, endRound_L, endRound_S, hlt, hlt', w2, h3, h3', he]
      · simp [hc] at he
        simp [round, Tryd.f38, evOps_cons, wantA_some, argsTm, ann_keep_38, ann_recov_38, ann_reg_38, reg38, ann_loop_38, loop38, headId, endRound_L, endRound_S, hlt, hlt', w2, h3, h3', he, endRound_M]
        refine hrec (i + 1) _ _ ?_ ?_ ?_ ?_
        · omega
        · omega
        · simp
        · simp
    · clear hrec
      simp [round, Tryd.f38, evOps_cons, wantA_some, argsTm, ann_keep_38, ann_recov_38, ann_reg_38, reg38, ann_loop_38, loop38, headId, endRound_L, endRound_S, hlt]
      rw [List.drop_eq_nil_of_le (by omega), List.drop_eq_nil_of_le (by omega), sameL]
theorem ev_Same (N : Nat) : ∀ (f g : Fun), f.nodes ≤ N → f.nodes ≤ 1000000000 → ∀ (m : Mem), evCall C0 22 [.agg f.cells, .agg g.cells] m = some (.ret (.bool (sameF f g)), m) := by
  induction N with
  | zero => intro f g hN; have := f.nodes_pos; omega
  | succ N ih =>
  intro f g hN hb m
  rw [evCall_body C0 (C0_ext _) (by rw [C0_P]; exact Tryd.func22) rfl (by rw [C0_ann]; rfl) (by decide) (by simp [Tryd.f22])]
  have hlen := f.length_args
  have he := ev_Equal f.args g.args false false (by omega) fun f' g' m' hm => ih f' g' (by have := Fun.nodes_arg hm; omega) (by have := Fun.nodes_arg hm; omega) m'
  rw [sameF_eq]
  by_cases c1 : f.kind = g.kind
  case neg => simp [Tryd.f22, evOps_cons, wantA_some, argsTm, ann_keep_22, ann_recov_22, ann_reg_22, reg22, c1]
  by_cases c2 : f.num = g.num
  case neg => simp [Tryd.f22, evOps_cons, wantA_some, argsTm, ann_keep_22, ann_recov_22, ann_reg_22, reg22, eq_true c1, c2]
  simp [Tryd.f22, evOps_cons, wantA_some, argsTm, ann_keep_22, ann_recov_22, ann_reg_22, reg22, eq_true c1, eq_true c2, he]

def idxL (q : Fun → Bool) : List Fun → Nat → Int
  | [], _ => -1
  | f :: r, i => if q f then i else idxL q r (i + 1)
theorem idxL_any (q : Fun → Bool) : ∀ (l : List Fun) (i : Nat), decide (0 ≤ idxL q l i) = l.any q
  | [], _ => by rw [idxL]; rfl
  | f :: r, i => by
    rw [idxL, List.any_cons]
    cases q f with
    | true => simp
    | false => simp [idxL_any q r (i + 1)]
theorem idxL_drop {q : Fun → Bool} {l : List Fun} {i : Nat} (h : i < l.length) : idxL q (l.drop i) i = if q l[i] then (i : Int) else idxL q (l.drop (i + 1)) (i + 1) := by rw [List.drop_eq_getElem_cons h, idxL]
set_option maxHeartbeats 1000000 in
theorem ev_Index (l : List Fun) (b : Bool) (h : FuncId) (caps : List A) (q : Fun → Bool) (hb : l.length ≤ 1000000000) (m : Mem) (hc : caps.all (closed m.bx.length m.rw.length) = true) (hS : ∀ f, f ∈ l → evCall C0 h (.agg f.cells :: caps) m = some (.ret (.bool (q f)), m)) :
    evCall C0 67 [.isl b l.length (Fun.cellsL l), .fn h caps] m = some (.ret (.int .i64 (idxL q l 0)), m) := by
  rw [evCall_body C0 (C0_ext _) (by rw [C0_P]; exact Tryd.func67) rfl (by rw [C0_ann]; rfl) (by decide) (by simp [Tryd.f67])]
  simp [Tryd.f67, evOps_cons, wantA_some, argsTm, ann_keep_67, ann_recov_67, ann_reg_67, reg67, ann_loop_67, loop67, headId, endRound_L, endRound_S]
  refine loop_in (fun i : Nat => ⟨[(0, .isl b l.length (Fun.cellsL l)), (1, .fn h caps), (7, .int .i64 l.length), (8, .int .i64 i)], m⟩)
    (fun i => some (.ret (.int .i64 (idxL q (l.drop i) i)), m)) (fun i => l.length - i) (fun i => i ≤ l.length) 0 ?_ ?_ ?_ ?_ ?_
  · simp
  · simp
  · omega
  · intro x; simp [Tryd.f67, evOps_cons, wantA_some, argsTm, ann_keep_67, ann_recov_67, ann_reg_67, reg67, ann_loop_67, loop67, headId, endRound_L, endRound_S]
  · intro i hi hrec
    by_cases hlt : i < l.length
    · have w2 : IntKind.i64.wrap (i + 1) = i + 1 := wrap_id _ (by omega)
      have he := hS l[i] (List.getElem_mem hlt)
      simp at he
      have h3 : (i + 1) * 3 ≤ l.length * 3 := by omega
      rw [idxL_drop hlt]
      cases hq : q l[i]
      · simp [hq] at he
        simp [round, Tryd.f67, evOps_cons, wantA_some, argsTm, ann_keep_67, ann_recov_67, ann_reg_67, reg67, ann_loop_67, loop67, headId, endRound_L, endRound_S, hlt, w2, h3, he, hc, endRound_M0]
        refine hrec (i + 1) _ _ ?_ ?_ ?_ ?_
        · omega
        · omega
        · simp
        · simp
      · simp [hq] at he
        simp [round, Tryd.f67, evOps_cons, wantA_some, argsTm, ann_keep_67, ann_recov_67, ann_reg_67, reg67, ann_loop_67, loop67, headId, endRound_L, endRound_S, hlt, w2, h3, he]
    · clear hrec
      simp [round, Tryd.f67, evOps_cons, wantA_some, argsTm, ann_keep_67, ann_recov_67, ann_reg_67, reg67, ann_loop_67, loop67, headId, endRound_L, endRound_S, hlt]
      rw [List.drop_eq_nil_of_le (by omega), idxL]
theorem ev_Contains (l : List Fun) (b : Bool) (h : FuncId) (caps : List A) (q : Fun → Bool) (hb : l.length ≤ 1000000000) (m : Mem) (hc : caps.all (closed m.bx.length m.rw.length) = true) (hS : ∀ f, f ∈ l → evCall C0 h (.agg f.cells :: caps) m = some (.ret (.bool (q f)), m)) :
    evCall C0 53 [.isl b l.length (Fun.cellsL l), .fn h caps] m = some (.ret (.bool (l.any q)), m) := by
  rw [evCall_body C0 (C0_ext _) (by rw [C0_P]; exact Tryd.func53) rfl (by rw [C0_ann]; rfl) (by decide) (by simp [Tryd.f53])]
  have he := ev_Index l b h caps q hb m hc hS
  simp [Tryd.f53, evOps_cons, wantA_some, argsTm, ann_keep_53, ann_recov_53, ann_reg_53, reg53, he, idxL_any]
theorem ev_Has (p : FuncId) (q : Int → Bool) (hp : ∀ k m, evCall C0 p [.int .i64 k] m = some (.ret (.bool (q k)), m)) (N : Nat) : ∀ (f : Fun), f.nodes ≤ N → f.nodes ≤ 1000000000 → ∀ (m : Mem), evCall C0 35 [.agg f.cells, .fn p []] m = some (.ret (.bool (hasK q f)), m) := by
  induction N with
  | zero => intro f hN; have := f.nodes_pos; omega
  | succ N ih =>
  intro f hN hb m
  rw [evCall_body C0 (C0_ext _) (by rw [C0_P]; exact Tryd.func35) rfl (by rw [C0_ann]; rfl) (by decide) (by simp [Tryd.f35])]
  have hlen := f.length_args
  have h1 : ∀ (m : Mem) (id : Nat), m.bx[id]? = some [.fn p []] → ∀ g, g ∈ f.args → evCall C0 54 [.agg g.cells, .ptr id 0] m = some (.ret (.bool (hasK q g)), m) := by
    intro m id hbx g hg
    have hid : id < m.bx.length := (List.getElem?_eq_some_iff.1 hbx).1
    have hget : m.bx[id] = [.fn p []] := (List.getElem?_eq_some_iff.1 hbx).2
    rw [evCall_body C0 (C0_ext _) (by rw [C0_P]; exact Tryd.func54) rfl (by rw [C0_ann]; rfl) (by decide) (by simp [Tryd.f54])]
    have he := ih g (by have := Fun.nodes_arg hg; omega) (by have := Fun.nodes_arg hg; omega)
    simp at he
    simp [Tryd.f54, evOps_cons, wantA_some, argsTm, ann_keep_54, ann_recov_54, ann_reg_54, reg54, hid, at_lt, hget, he]
  have h2 := ev_Contains f.args false 54 [.ptr (m.bx.length + 1) 0] (hasK q) (by omega) ⟨m.bx ++ [f.cells, [.fn p []]], m.rw⟩ (by simp) fun g hg => h1 _ _ (by simp) g hg
  simp at h2
  rw [hasK_eq]
  cases hq : q f.kind
  · have hpk := fun m => hp f.kind m
    simp [hq] at hpk
    simp [Tryd.f35, evOps_cons, wantA_some, argsTm, ann_keep_35, ann_recov_35, ann_reg_35, reg35, hpk, h2]
  · have hpk := fun m => hp f.kind m
    simp [hq] at hpk
    simp [Tryd.f35, evOps_cons, wantA_some, argsTm, ann_keep_35, ann_recov_35, ann_reg_35, reg35, hpk]
theorem ev_Plain1 (k : Int) (m : Mem) : evCall C0 36 [.int .i64 k] m = some (.ret (.bool (decide (6 ≤ k))), m) := by
  rw [evCall_body C0 (C0_ext _) (by rw [C0_P]; exact Tryd.func36) rfl (by rw [C0_ann]; rfl) (by decide) (by simp [Tryd.f36])]
  simp [Tryd.f36, evOps_cons, wantA_some, argsTm, ann_keep_36, ann_recov_36, ann_reg_36, reg36]
theorem ev_Poly1 (k : Int) (m : Mem) : evCall C0 37 [.int .i64 k] m = some (.ret (.bool (decide (5 ≤ k))), m) := by
  rw [evCall_body C0 (C0_ext _) (by rw [C0_P]; exact Tryd.func37) rfl (by rw [C0_ann]; rfl) (by decide) (by simp [Tryd.f37])]
  simp [Tryd.f37, evOps_cons, wantA_some, argsTm, ann_keep_37, ann_recov_37, ann_reg_37, reg37]
theorem ev_Poly (f : Fun) (hb : f.nodes ≤ 1000000000) (m : Mem) : evCall C0 18 [.agg f.cells] m = some (.ret (.tup [.bool (okF f && !hasK (fun k => decide (5 ≤ k)) f), .int .i64 (if okF f then 0 else 10)]), m) := by
  rw [evCall_body C0 (C0_ext _) (by rw [C0_P]; exact Tryd.func18) rfl (by rw [C0_ann]; rfl) (by decide) (by simp [Tryd.f18])]
  have he := ev_Valid f hb
  have h2 := ev_Has 37 _ ev_Poly1 f.nodes f (Nat.le_refl _) hb
  simp at he h2
  cases hc : okF f <;> simp [hc] at he <;> simp [Tryd.f18, evOps_cons, wantA_some, argsTm, ann_keep_18, ann_recov_18, ann_reg_18, reg18, he, h2]
theorem ev_Plain (f : Fun) (hb : f.nodes ≤ 1000000000) (m : Mem) : evCall C0 17 [.agg f.cells] m = some (.ret (.tup [.bool (okF f && !hasK (fun k => decide (6 ≤ k)) f), .int .i64 (if okF f then 0 else 10)]), m) := by
  rw [evCall_body C0 (C0_ext _) (by rw [C0_P]; exact Tryd.func17) rfl (by rw [C0_ann]; rfl) (by decide) (by simp [Tryd.f17])]
  have he := ev_Valid f hb
  have h2 := ev_Has 36 _ ev_Plain1 f.nodes f (Nat.le_refl _) hb
  simp at he h2
  cases hc : okF f <;> simp [hc] at he <;> simp [Tryd.f17, evOps_cons, wantA_some, argsTm, ann_keep_17, ann_recov_17, ann_reg_17, reg17, he, h2]
end AE
end Go.Proofs.YtdifmcdgnbnhiaaDoor
