/- Parse. -/
import Derived.Test.YtdifmcdgnbnhiaaDoorAF8
set_option linter.unusedVariables false
set_option linter.unusedSimpArgs false
namespace Go.Proofs.YtdifmcdgnbnhiaaDoor
namespace AE
open Go

noncomputable def rest1 : Code := match Tryd.f30.body with | some (.seq _ r) => r | _ => .skip
theorem rb1 : recBody C0.P 30 = some (17, 5, 2, rest1) := by
  rw [C0_P]
  unfold recBody
  rw [Tryd.func30]
  rfl
theorem ad_ret (x y : A) (s : St) : afterDefer C0 30 [x, y] (some (.ret, s)) = deferred C0 30 (17, 5, 2, rest1) [x, y] .nili s := afterDefer_ret C0 _ _ rb1 (by simp) s
theorem ad_pan (x y a : A) (s : St) : afterDefer C0 30 [x, y] (some (.pan a, s)) = deferred C0 30 (17, 5, 2, rest1) [x, y] a s := afterDefer_pan C0 _ _ rb1 (by simp) a s
def zeroF : Fun := .mk 0 0 []
def parseF (n : Nat) (s : List UInt8) : Fun × Int :=
  if 40000 < s.length then (zeroF, 2) else
  match pAll n s with
  | (none, _) => (zeroF, 11)
  | (some f, t) => if dropC 32 t = [] then (if okF f then (f, 0) else (zeroF, 10)) else (zeroF, 11)

set_option maxHeartbeats 2000000 in
theorem ev_Parse (n : Nat) (s t : List UInt8) (f : Fun) (hs : Sm s) (hp : pAll n s = (some f, t)) (hf : f.nodes ≤ 1000000) (m : Mem) :
    evCall C0 12 [.str s] m = some (.ret (.tup [.agg (parseF n s).1.cells, .int .i64 (parseF n s).2]), m) := by
  rw [evCall_rec C0 (C0_ext _) (by rw [C0_P]; exact Tryd.func12) rfl (by rw [C0_ann]; rfl) (by decide) (by simp [Tryd.f12])]
  unfold parseF
  rw [evRec_seq _ _ _ _ _ _ rfl]
  simp [Tryd.f12, evOps_cons, wantA_some, argsTm, ann_keep_12, ann_recov_12, ann_reg_12, reg12]
  rw [evRec_seq _ _ _ _ _ _ rfl]
  by_cases hl : 40000 < s.length
  · have hl' : (40000 : Int) < s.length := by omega
    simp [Tryd.f12, evOps_cons, wantA_some, argsTm, ann_keep_12, ann_recov_12, ann_reg_12, reg12, hl, hl', zeroF]
  have hl' : ¬ (40000 : Int) < s.length := by omega
  simp [Tryd.f12, evOps_cons, wantA_some, argsTm, ann_keep_12, ann_recov_12, ann_reg_12, reg12, hl, hl', hp]
  rw [evRec_defer _ _ _ _ _ _ (d := (9, 30, [.tmp 2, .tmp 3])) rfl (by decide)]
  have e1 := ev_all (m.bx.length + 2) n s f t ⟨m.bx ++ [[.int .i64 0, .int .i64 0, .nils], [.int .i64 0], [.str s]], m.rw⟩ hs hp (by simp)
  simp at e1
  have e2 := ev_next (m.bx.length + 2) t ⟨m.bx ++ [f.cells, [.int .i64 0], [.str t]], m.rw⟩ (by simp)
  simp at e2
  have ev := ev_Valid f (by omega)
  simp at ev
  cases hd : dropC 32 t with
  | nil =>
    simp [hd] at e2
    cases hok : okF f with
    | true =>
      simp [hok] at ev
      simp [Tryd.f12, evOps_cons, wantA_some, argsTm, ann_keep_12, ann_recov_12, ann_reg_12, reg12, Tryd.f30, evOps_cons, wantA_some, argsTm, ann_keep_30, ann_recov_30, ann_reg_30, reg30, e1, e2, ev, ad_ret, deferred, rest1, hok]
    | false =>
      simp [hok] at ev
      simp [Tryd.f12, evOps_cons, wantA_some, argsTm, ann_keep_12, ann_recov_12, ann_reg_12, reg12, Tryd.f30, evOps_cons, wantA_some, argsTm, ann_keep_30, ann_recov_30, ann_reg_30, reg30, e1, e2, ev, ad_ret, deferred, rest1, hok, zeroF]
  | cons b r =>
    simp [hd] at e2
    have : ¬ (b :: r : List UInt8) = [] := by simp
    by_cases hb : b.toNat = 0
    · have hb' := eq_true hb
      simp [Tryd.f12, evOps_cons, wantA_some, argsTm, ann_keep_12, ann_recov_12, ann_reg_12, reg12, Tryd.f30, evOps_cons, wantA_some, argsTm, ann_keep_30, ann_recov_30, ann_reg_30, reg30, e1, e2, ev, ad_ret, deferred, rest1, zeroF, hb]
    · simp [Tryd.f12, evOps_cons, wantA_some, argsTm, ann_keep_12, ann_recov_12, ann_reg_12, reg12, Tryd.f30, evOps_cons, wantA_some, argsTm, ann_keep_30, ann_recov_30, ann_reg_30, reg30, e1, e2, ev, ad_ret, deferred, rest1, zeroF, hb]

/-! ### The fixed calls -/
def s1 : List UInt8 := [49, 43, 40, 51, 42, 88, 41]
def s2 : List UInt8 := [40, 40, 88, 41, 41]
def s3 : List UInt8 := [50, 42, 88, 42, 88]
def s4 : List UInt8 := [48, 32, 43, 32, 88]
theorem Sm_short {s : List UInt8} (h : s.length < 19) : Sm s := by
  refine ⟨by omega, fun u hu => ?_⟩
  have h1 := hu.length_le
  have h2 := dropC_length 48 (u.take (digN u))
  have h3 : (u.take (digN u)).length ≤ u.length := by rw [List.length_take]; omega
  omega
def f1 : Fun := .mk 3 0 [.mk 1 1 [], .mk 2 0 [.mk 1 3 [], .mk 0 0 []]]
theorem p1 : pAll 9 s1 = (some f1, []) := by
  simp [pAll, pPower, pSecond, pOperand, pInner, closeF, isC, numF, dropC, digN, isDig, atoiF, s1, f1]
theorem p2 : pAll 9 s2 = (some (.mk 0 0 []), []) := by
  simp [pAll, pPower, pSecond, pOperand, pInner, closeF, isC, numF, dropC, digN, isDig, atoiF, s2]
theorem p3 : pAll 9 s3 = (some (.mk 2 0 [.mk 1 2 [], .mk 0 0 []]), [42, 88]) := by
  simp [pAll, pPower, pSecond, pOperand, pInner, closeF, isC, numF, dropC, digN, isDig, atoiF, s3]
theorem p4 : pAll 9 s4 = (some (.mk 3 0 [.mk 1 0 [], .mk 0 0 []]), []) := by
  simp [pAll, pPower, pSecond, pOperand, pInner, closeF, isC, numF, dropC, digN, isDig, atoiF, s4]
end AE
end Go.Proofs.YtdifmcdgnbnhiaaDoor
