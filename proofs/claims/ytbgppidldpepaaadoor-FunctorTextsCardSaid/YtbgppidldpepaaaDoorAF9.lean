/- Parse. -/
import Derived.Test.YtbgppidldpepaaaDoorAF8
set_option linter.unusedVariables false
set_option linter.unusedSimpArgs false
namespace Go.Proofs.YtbgppidldpepaaaDoor
namespace AE
open Go

noncomputable def rest1 : Code := match Tryd.f18.body with | some (.seq _ r) => r | _ => .skip
theorem rb1 : recBody C0.P 18 = some (17, 5, 2, rest1) := by
  rw [C0_P]
  unfold recBody
  rw [Tryd.func18]
  rfl
theorem ad_ret (x y : A) (s : St) : afterDefer C0 18 [x, y] (some (.ret, s)) = deferred C0 18 (17, 5, 2, rest1) [x, y] .nili s := afterDefer_ret C0 _ _ rb1 (by simp) s
theorem ad_pan (x y a : A) (s : St) : afterDefer C0 18 [x, y] (some (.pan a, s)) = deferred C0 18 (17, 5, 2, rest1) [x, y] a s := afterDefer_pan C0 _ _ rb1 (by simp) a s
def zeroF : Fun := .mk 0 0 []
def parseF (n : Nat) (s : List UInt8) : Fun × Int :=
  if 40000 < s.length then (zeroF, 2) else
  match pAll n s with
  | (none, _) => (zeroF, 11)
  | (some f, t) => if dropC 32 t = [] then (if okF f then (f, 0) else (zeroF, 10)) else (zeroF, 11)

/-! ### A tree has no more nodes than its string has bytes -/
def Cost (all : List UInt8 → PR) : Prop := ∀ s f t, all s = (some f, t) → f.nodes + t.length ≤ s.length
theorem numF_cost {s t : List UInt8} {k : Int} (h : numF s = (some k, t)) : 1 + t.length ≤ s.length := by
  have hl := dropC_length 32 s
  unfold numF at h
  simp only at h
  split at h
  · cases h
  · rename_i h0
    simp only [Prod.mk.injEq] at h
    have hd := digN_le (dropC 32 s)
    rw [← h.2, List.length_drop]
    omega
theorem closeF_cost {k : Fun → Fun} {x : PR} {f : Fun} {t : List UInt8} (h : closeF k x = (some f, t)) : ∃ g u, x = (some g, u) ∧ f = k g ∧ t.length < u.length := by
  unfold closeF at h
  split at h
  · rename_i g u
    split at h
    · rename_i hc
      simp only [Prod.mk.injEq, Option.some.injEq] at h
      exact ⟨g, u, rfl, h.1.symm, by rw [← h.2]; exact isC_true hc⟩
    · cases h
  · cases h
section
variable {all : List UInt8 → PR} (ha : Cost all)
include ha
theorem pInner_cost {k : Int} {r : List UInt8} {f : Fun} {t : List UInt8} (h : pInner all k r = (some f, t)) : f.nodes + t.length ≤ r.length := by
  unfold pInner at h
  split at h
  · rename_i hc
    obtain ⟨g, u, h1, rfl, h3⟩ := closeF_cost h
    have h4 := ha _ _ _ h1
    have h5 := isC_true hc
    rw [Fun.nodes_eq]
    simp only [Fun.args_mk, Fun.nodesL]
    omega
  · cases h
theorem pOperand_cost {s : List UInt8} {f : Fun} {t : List UInt8} (h : pOperand all s = (some f, t)) : f.nodes + t.length ≤ s.length := by
  have hl := dropC_length 32 s
  unfold pOperand at h
  cases hd : dropC 32 s with
  | nil => rw [hd] at h; cases h
  | cons c r =>
    rw [hd] at h hl
    simp only [List.length_cons] at h hl
    split at h
    · simp only [Prod.mk.injEq, Option.some.injEq] at h
      rw [← h.1, ← h.2]
      simp [Fun.nodes, Fun.nodesL]
      omega
    · split at h
      · obtain ⟨g, u, h1, h2, h3⟩ := closeF_cost h
        have h4 := ha _ _ _ h1
        have h2 : f = g := h2
        rw [h2]
        omega
      · split at h
        · have := pInner_cost ha h; omega
        · split at h
          · have := pInner_cost ha h; omega
          · split at h
            · have := pInner_cost ha h; omega
            · cases hn : numF (c :: r) with
              | mk o u =>
              rw [hn] at h
              cases o with
              | none => simp at h
              | some k =>
                simp only [Option.map_some, Prod.mk.injEq, Option.some.injEq] at h
                have := numF_cost hn
                rw [← h.1, ← h.2]
                simp [Fun.nodes, Fun.nodesL] at this ⊢
                omega
theorem pPower_cost {s : List UInt8} {f : Fun} {t : List UInt8} (h : pPower all s = (some f, t)) : f.nodes + t.length ≤ s.length := by
  unfold pPower at h
  split at h
  · cases h
  · rename_i g u he
    have h1 := pOperand_cost ha he
    have h2 := (isC_suffix 94 u).length_le
    split at h
    · rename_i hc
      have h3 := isC_true hc
      cases hn : numF (isC 94 u).2 with
      | mk o v =>
      rw [hn] at h
      cases o with
      | none => simp at h
      | some k =>
        simp only [Option.map_some, Prod.mk.injEq, Option.some.injEq] at h
        have := numF_cost hn
        rw [← h.1, ← h.2, Fun.nodes_eq]
        simp only [Fun.args_mk, Fun.nodesL]
        omega
    · simp only [Prod.mk.injEq, Option.some.injEq] at h
      rw [← h.1, ← h.2]
      omega
theorem pSecond_cost {k : Int} {f0 : Fun} {u : List UInt8} {f : Fun} {t : List UInt8} (h : pSecond all k f0 u = (some f, t)) : f.nodes + t.length ≤ 1 + f0.nodes + u.length := by
  unfold pSecond at h
  split at h
  · cases h
  · rename_i g v he
    have h1 := pPower_cost ha he
    simp only [Prod.mk.injEq, Option.some.injEq] at h
    rw [← h.1, ← h.2, Fun.nodes_eq]
    simp only [Fun.args_mk, Fun.nodesL]
    omega
end
theorem pAll_cost : ∀ n, Cost (pAll n)
  | 0 => by intro s f t h; rw [pAll] at h; cases h
  | n + 1 => by
    intro s f t h
    rw [pAll] at h
    split at h
    · cases h
    · rename_i g u he
      have h1 := pPower_cost (pAll_cost n) he
      have h2 := (isC_suffix 42 u).length_le
      have h4 := (isC_suffix 43 (isC 42 u).2).length_le
      split at h
      · rename_i hc
        have h3 := isC_true hc
        have := pSecond_cost (pAll_cost n) h
        omega
      · split at h
        · rename_i hc
          have h3 := isC_true hc
          have := pSecond_cost (pAll_cost n) h
          omega
        · simp only [Prod.mk.injEq, Option.some.injEq] at h
          rw [← h.1, ← h.2]
          omega

set_option maxHeartbeats 4000000 in
theorem ev_Parse (n : Nat) (s : List UInt8) (hs : Sm s) (hn : s.length < n) (m : Mem) :
    evCall C0 9 [.str s] m = some (.ret (.tup [.agg (parseF n s).1.cells, .int .i64 (parseF n s).2]), m) := by
  rw [evCall_rec C0 (C0_ext _ (by decide)) (by rw [C0_P]; exact Tryd.func9) rfl (by rw [C0_ann]; rfl) (by decide) (by simp [Tryd.f9])]
  unfold parseF
  rw [evRec_seq _ _ _ _ _ _ rfl]
  simp [Tryd.f9, evOps_cons, wantA_some, argsTm, ann_keep_9, ann_recov_9, ann_reg_9, reg9]
  rw [evRec_seq _ _ _ _ _ _ rfl]
  by_cases hl : 40000 < s.length
  · have hl' : (40000 : Int) < s.length := by omega
    simp [Tryd.f9, evOps_cons, wantA_some, argsTm, ann_keep_9, ann_recov_9, ann_reg_9, reg9, hl, hl', zeroF]
  have hl' : ¬ (40000 : Int) < s.length := by omega
  simp [Tryd.f9, evOps_cons, wantA_some, argsTm, ann_keep_9, ann_recov_9, ann_reg_9, reg9, hl, hl']
  rw [evRec_defer _ _ _ _ _ _ (d := (9, 18, [.tmp 2, .tmp 3])) rfl (by decide)]
  have e1 := ev_all (m.bx.length + 2) n s ⟨m.bx ++ [[.int .i64 0, .int .i64 0, .nils], [.int .i64 0], [.str s]], m.rw⟩ hs hn (by simp)
  cases hp : pAll n s with
  | mk o t =>
  rw [hp] at e1
  cases o with
  | none =>
    simp at e1
    simp [Tryd.f9, evOps_cons, wantA_some, argsTm, ann_keep_9, ann_recov_9, ann_reg_9, reg9, Tryd.f18, evOps_cons, wantA_some, argsTm, ann_keep_18, ann_recov_18, ann_reg_18, reg18, e1, ad_pan, deferred, rest1, zeroF, wrongA]
  | some f =>
  have hf : f.nodes ≤ 1000000 := by have := pAll_cost n s f t hp; unfold Sm at hs; omega
  simp at e1
  have e2 := ev_next (m.bx.length + 2) t ⟨m.bx ++ [f.cells, [.int .i64 0], [.str t]], m.rw⟩ (by simp)
  simp at e2
  have ev := ev_Valid f (by omega)
  simp at ev
  cases hd : dropC 32 t with
  | nil =>
    simp [hd] at e2
    cases hok : okF f with
    | true =>
      simp [hok] at ev
      simp [Tryd.f9, evOps_cons, wantA_some, argsTm, ann_keep_9, ann_recov_9, ann_reg_9, reg9, Tryd.f18, evOps_cons, wantA_some, argsTm, ann_keep_18, ann_recov_18, ann_reg_18, reg18, e1, e2, ev, ad_ret, deferred, rest1, hok, hd]
    | false =>
      simp [hok] at ev
      simp [Tryd.f9, evOps_cons, wantA_some, argsTm, ann_keep_9, ann_recov_9, ann_reg_9, reg9, Tryd.f18, evOps_cons, wantA_some, argsTm, ann_keep_18, ann_recov_18, ann_reg_18, reg18, e1, e2, ev, ad_ret, deferred, rest1, hok, zeroF, hd]
  | cons b r =>
    simp [hd] at e2
    have : ¬ (b :: r : List UInt8) = [] := by simp
    by_cases hb : b.toNat = 0
    · have hb' := eq_true hb
      simp [Tryd.f9, evOps_cons, wantA_some, argsTm, ann_keep_9, ann_recov_9, ann_reg_9, reg9, Tryd.f18, evOps_cons, wantA_some, argsTm, ann_keep_18, ann_recov_18, ann_reg_18, reg18, e1, e2, ev, ad_ret, deferred, rest1, zeroF, hb, hd]
    · simp [Tryd.f9, evOps_cons, wantA_some, argsTm, ann_keep_9, ann_recov_9, ann_reg_9, reg9, Tryd.f18, evOps_cons, wantA_some, argsTm, ann_keep_18, ann_recov_18, ann_reg_18, reg18, e1, e2, ev, ad_ret, deferred, rest1, zeroF, hb, hd]

/-! ### The fixed calls -/
def s1 : List UInt8 := [49, 43, 40, 51, 42, 88, 41]
def s2 : List UInt8 := [40, 40, 88, 41, 41]
def s3 : List UInt8 := [50, 42, 88, 42, 88]
def s4 : List UInt8 := [48, 32, 43, 32, 88]
theorem Sm_short {s : List UInt8} (h : s.length < 19) : Sm s := by
  unfold Sm; omega
def f1 : Fun := .mk 3 0 [.mk 1 1 [], .mk 2 0 [.mk 1 3 [], .mk 0 0 []]]
theorem p1 : pAll 9 s1 = (some f1, []) := by
  simp [pAll, pPower, pSecond, pOperand, pInner, closeF, isC, numF, dropC, digN, isDig, atoiF, s1, f1]
theorem p2 : pAll 9 s2 = (some (.mk 0 0 []), []) := by
  simp [pAll, pPower, pSecond, pOperand, pInner, closeF, isC, numF, dropC, digN, isDig, atoiF, s2]
theorem p3 : pAll 9 s3 = (some (.mk 2 0 [.mk 1 2 [], .mk 0 0 []]), [42, 88]) := by
  simp [pAll, pPower, pSecond, pOperand, pInner, closeF, isC, numF, dropC, digN, isDig, atoiF, s3]
theorem p4 : pAll 9 s4 = (some (.mk 3 0 [.mk 1 0 [], .mk 0 0 []]), []) := by
  simp [pAll, pPower, pSecond, pOperand, pInner, closeF, isC, numF, dropC, digN, isDig, atoiF, s4]
end AE
end Go.Proofs.YtbgppidldpepaaaDoor
