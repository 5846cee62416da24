/- The code's functions about functors, on. -/
import Derived.Test.YtbgppidldpepaaaDoorAF3
set_option linter.unusedVariables false
set_option linter.unusedSimpArgs false
namespace Go.Proofs.YtbgppidldpepaaaDoor
namespace AE
open Go

def okF (f : Fun) : Bool := (validF f 20 1).1
theorem ev_Valid (f : Fun) (hb : f.nodes ≤ 1000000000) (m : Mem) : evCall C0 14 [.agg f.cells] m = some (.ret (.bool (okF f)), m) := by
  rw [evCall_body C0 (C0_ext _ (by decide)) (by rw [C0_P]; exact Tryd.func14) rfl (by rw [C0_ann]; rfl) (by decide) (by simp [Tryd.f14])]
  have he := ev_valid (m.bx.length + 1) f.nodes f (Nat.le_refl _) hb 20 1 ⟨m.bx ++ [f.cells, [.int .i64 20]], m.rw⟩ (by omega) (by omega) (by omega) (by omega) (by simp)
  simp at he
  simp [Tryd.f14, evOps_cons, wantA_some, argsTm, ann_keep_14, ann_recov_14, ann_reg_14, reg14, he, okF]
def idxL (q : Fun → Bool) : List Fun → Nat → Int
  | [], _ => -1
  | f :: r, i => if q f then i else idxL q r (i + 1)
theorem idxL_any (q : Fun → Bool) : ∀ (l : List Fun) (i : Nat), decide (0 ≤ idxL q l i) = l.any q
  | [], _ => by rw [idxL]; rfl
  | f :: r, i => by
    rw [idxL, List.any_cons]
    cases q f with
    | true => simp
    | false => simp [idxL_any q r (i + 1)]
theorem idxL_drop {q : Fun → Bool} {l : List Fun} {i : Nat} (h : i < l.length) : idxL q (l.drop i) i = if q l[i] then (i : Int) else idxL q (l.drop (i + 1)) (i + 1) := by rw [List.drop_eq_getElem_cons h, idxL]
set_option maxHeartbeats 1000000 in
theorem ev_Index (l : List Fun) (b : Bool) (h : FuncId) (caps : List A) (q : Fun → Bool) (hb : l.length ≤ 1000000000) (m : Mem) (hc : caps.all (closed m.bx.length m.rw.length) = true) (hS : ∀ f, f ∈ l → evCall C0 h (.agg f.cells :: caps) m = some (.ret (.bool (q f)), m)) :
    evCall C0 53 [.isl b l.length (Fun.cellsL l), .fn h caps] m = some (.ret (.int .i64 (idxL q l 0)), m) := by
  rw [evCall_body C0 (C0_ext _ (by decide)) (by rw [C0_P]; exact Tryd.func53) rfl (by rw [C0_ann]; rfl) (by decide) (by simp [Tryd.f53])]
  simp [Tryd.f53, evOps_cons, wantA_some, argsTm, ann_keep_53, ann_recov_53, ann_reg_53, reg53, ann_loop_53, loop53, headId, endRound_L, endRound_S]
  refine loop_in (fun i : Nat => ⟨[(0, .isl b l.length (Fun.cellsL l)), (1, .fn h caps), (7, .int .i64 l.length), (8, .int .i64 i)], m⟩)
    (fun i => some (.ret (.int .i64 (idxL q (l.drop i) i)), m)) (fun i => l.length - i) (fun i => i ≤ l.length) 0 ?_ ?_ ?_ ?_ ?_
  · simp
  · simp
  · omega
  · intro x; simp [Tryd.f53, evOps_cons, wantA_some, argsTm, ann_keep_53, ann_recov_53, ann_reg_53, reg53, ann_loop_53, loop53, headId, endRound_L, endRound_S]
  · intro i hi hrec
    by_cases hlt : i < l.length
    · have w2 : IntKind.i64.wrap (i + 1) = i + 1 := wrap_id _ (by omega)
      have he := hS l[i] (List.getElem_mem hlt)
      simp at he
      have h3 : (i + 1) * 3 ≤ l.length * 3 := by omega
      rw [idxL_drop hlt]
      cases hq : q l[i]
      · simp [hq] at he
        simp [round, Tryd.f53, evOps_cons, wantA_some, argsTm, ann_keep_53, ann_recov_53, ann_reg_53, reg53, ann_loop_53, loop53, headId, endRound_L, endRound_S, hlt, w2, h3, he, hc, endRound_M0]
        refine hrec (i + 1) _ _ ?_ ?_ ?_ ?_
        · omega
        · omega
        · simp
        · simp
      · simp [hq] at he
        simp [round, Tryd.f53, evOps_cons, wantA_some, argsTm, ann_keep_53, ann_recov_53, ann_reg_53, reg53, ann_loop_53, loop53, headId, endRound_L, endRound_S, hlt, w2, h3, he]
    · clear hrec
      simp [round, Tryd.f53, evOps_cons, wantA_some, argsTm, ann_keep_53, ann_recov_53, ann_reg_53, reg53, ann_loop_53, loop53, headId, endRound_L, endRound_S, hlt]
      rw [List.drop_eq_nil_of_le (by omega), idxL]
theorem ev_Contains (l : List Fun) (b : Bool) (h : FuncId) (caps : List A) (q : Fun → Bool) (hb : l.length ≤ 1000000000) (m : Mem) (hc : caps.all (closed m.bx.length m.rw.length) = true) (hS : ∀ f, f ∈ l → evCall C0 h (.agg f.cells :: caps) m = some (.ret (.bool (q f)), m)) :
    evCall C0 39 [.isl b l.length (Fun.cellsL l), .fn h caps] m = some (.ret (.bool (l.any q)), m) := by
  rw [evCall_body C0 (C0_ext _ (by decide)) (by rw [C0_P]; exact Tryd.func39) rfl (by rw [C0_ann]; rfl) (by decide) (by simp [Tryd.f39])]
  have he := ev_Index l b h caps q hb m hc hS
  simp [Tryd.f39, evOps_cons, wantA_some, argsTm, ann_keep_39, ann_recov_39, ann_reg_39, reg39, he, idxL_any]
theorem ev_Has (p : FuncId) (q : Int → Bool) (hp : ∀ k m, evCall C0 p [.int .i64 k] m = some (.ret (.bool (q k)), m)) (N : Nat) : ∀ (f : Fun), f.nodes ≤ N → f.nodes ≤ 1000000000 → ∀ (m : Mem), evCall C0 23 [.agg f.cells, .fn p []] m = some (.ret (.bool (hasK q f)), m) := by
  induction N with
  | zero => intro f hN; have := f.nodes_pos; omega
  | succ N ih =>
  intro f hN hb m
  rw [evCall_body C0 (C0_ext _ (by decide)) (by rw [C0_P]; exact Tryd.func23) rfl (by rw [C0_ann]; rfl) (by decide) (by simp [Tryd.f23])]
  have hlen := f.length_args
  have h1 : ∀ (m : Mem) (id : Nat), m.bx[id]? = some [.fn p []] → ∀ g, g ∈ f.args → evCall C0 40 [.agg g.cells, .ptr id 0] m = some (.ret (.bool (hasK q g)), m) := by
    intro m id hbx g hg
    have hid : id < m.bx.length := (List.getElem?_eq_some_iff.1 hbx).1
    have hget : m.bx[id] = [.fn p []] := (List.getElem?_eq_some_iff.1 hbx).2
    rw [evCall_body C0 (C0_ext _ (by decide)) (by rw [C0_P]; exact Tryd.func40) rfl (by rw [C0_ann]; rfl) (by decide) (by simp [Tryd.f40])]
    have he := ih g (by have := Fun.nodes_arg hg; omega) (by have := Fun.nodes_arg hg; omega)
    simp at he
    simp [Tryd.f40, evOps_cons, wantA_some, argsTm, ann_keep_40, ann_recov_40, ann_reg_40, reg40, hid, at_lt, hget, he]
  have h2 := ev_Contains f.args false 40 [.ptr (m.bx.length + 1) 0] (hasK q) (by omega) ⟨m.bx ++ [f.cells, [.fn p []]], m.rw⟩ (by simp) fun g hg => h1 _ _ (by simp) g hg
  simp at h2
  rw [hasK_eq]
  cases hq : q f.kind
  · have hpk := fun m => hp f.kind m
    simp [hq] at hpk
    simp [Tryd.f23, evOps_cons, wantA_some, argsTm, ann_keep_23, ann_recov_23, ann_reg_23, reg23, hpk, h2]
  · have hpk := fun m => hp f.kind m
    simp [hq] at hpk
    simp [Tryd.f23, evOps_cons, wantA_some, argsTm, ann_keep_23, ann_recov_23, ann_reg_23, reg23, hpk]
theorem ev_Poly1 (k : Int) (m : Mem) : evCall C0 24 [.int .i64 k] m = some (.ret (.bool (decide (5 ≤ k))), m) := by
  rw [evCall_body C0 (C0_ext _ (by decide)) (by rw [C0_P]; exact Tryd.func24) rfl (by rw [C0_ann]; rfl) (by decide) (by simp [Tryd.f24])]
  simp [Tryd.f24, evOps_cons, wantA_some, argsTm, ann_keep_24, ann_recov_24, ann_reg_24, reg24]
theorem ev_Poly (f : Fun) (hb : f.nodes ≤ 1000000000) (m : Mem) : evCall C0 13 [.agg f.cells] m = some (.ret (.tup [.bool (okF f && !hasK (fun k => decide (5 ≤ k)) f), .int .i64 (if okF f then 0 else 10)]), m) := by
  rw [evCall_body C0 (C0_ext _ (by decide)) (by rw [C0_P]; exact Tryd.func13) rfl (by rw [C0_ann]; rfl) (by decide) (by simp [Tryd.f13])]
  have he := ev_Valid f hb
  have h2 := ev_Has 24 _ ev_Poly1 f.nodes f (Nat.le_refl _) hb
  simp at he h2
  cases hc : okF f <;> simp [hc] at he <;> simp [Tryd.f13, evOps_cons, wantA_some, argsTm, ann_keep_13, ann_recov_13, ann_reg_13, reg13, he, h2]
end AE
end Go.Proofs.YtbgppidldpepaaaDoor
