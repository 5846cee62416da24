/- The parser. -/
import Derived.Test.YtbgppidldpepaaaDoorAF6
set_option linter.unusedVariables false
set_option linter.unusedSimpArgs false
namespace Go.Proofs.YtbgppidldpepaaaDoor
namespace AE
open Go

@[simp] theorem Fun.cellsL_cons (f : Fun) (r : List Fun) : Fun.cellsL (f :: r) = f.cells ++ Fun.cellsL r := by rw [Fun.cellsL]
abbrev PR := Option Fun × List UInt8
def closeF (k : Fun → Fun) (x : PR) : PR := match x with
  | (some f, t) => if (isC 41 t).1 then (some (k f), (isC 41 t).2) else (none, (isC 41 t).2)
  | (none, t) => (none, t)
def pInner (all : List UInt8 → PR) (kind : Int) (r : List UInt8) : PR := if (isC 40 r).1 then closeF (fun f => .mk kind 0 [f]) (all (isC 40 r).2) else (none, (isC 40 r).2)
def pOperand (all : List UInt8 → PR) (s : List UInt8) : PR := match dropC 32 s with
  | [] => (none, [])
  | c :: r => if c = 88 then (some (.mk 0 0 []), r) else if c = 40 then closeF _root_.id (all r) else if c = 80 then pInner all 5 r else if c = 66 then pInner all 6 r else if c = 68 then pInner all 7 r else ((numF (c :: r)).1.map fun k => .mk 1 k [], (numF (c :: r)).2)
def pPower (all : List UInt8 → PR) (s : List UInt8) : PR := match pOperand all s with
  | (none, t) => (none, t)
  | (some f, t) => if (isC 94 t).1 then ((numF (isC 94 t).2).1.map fun k => .mk 4 k [f], (numF (isC 94 t).2).2) else (some f, (isC 94 t).2)
def pSecond (all : List UInt8 → PR) (kind : Int) (f : Fun) (u : List UInt8) : PR := match pPower all u with
  | (none, v) => (none, v)
  | (some g, v) => (some (.mk kind 0 [f, g]), v)
def pAll : Nat → List UInt8 → PR
  | 0, s => (none, s)
  | n + 1, s => match pPower (pAll n) s with
    | (none, t) => (none, t)
    | (some f, t) => if (isC 42 t).1 then pSecond (pAll n) 2 f (isC 42 t).2 else if (isC 43 (isC 42 t).2).1 then pSecond (pAll n) 3 f (isC 43 (isC 42 t).2).2 else (some f, (isC 43 (isC 42 t).2).2)

/-- It is of a length that fits. -/
def Sm (s : List UInt8) : Prop := s.length ≤ 1000000
theorem Sm.suffix {s t : List UInt8} (h : Sm s) (k : t <:+ s) : Sm t := by have := k.length_le; unfold Sm at *; omega
theorem dropC_suffix (c : UInt8) (s : List UInt8) : dropC c s <:+ s := List.dropWhile_suffix _
theorem isC_suffix (c : UInt8) (s : List UInt8) : (isC c s).2 <:+ s := by
  have h := dropC_suffix 32 s
  unfold isC
  cases hd : dropC 32 s with
  | nil => exact List.nil_suffix
  | cons b r =>
    rw [hd] at h
    simp only
    split
    · exact (List.suffix_cons b r).trans h
    · exact h
theorem numF_suffix (s : List UInt8) : (numF s).2 <:+ s := by
  have h := dropC_suffix 32 s
  unfold numF
  simp only
  split
  · exact h
  · exact (List.drop_suffix _ _).trans h
theorem closeF_suffix (k : Fun → Fun) (x : PR) : (closeF k x).2 <:+ x.2 := by
  unfold closeF
  split
  · split <;> exact isC_suffix _ _
  · exact List.suffix_refl _
section
variable {all : List UInt8 → PR} (ha : ∀ s, (all s).2 <:+ s)
include ha
theorem pInner_suffix (k : Int) (r : List UInt8) : (pInner all k r).2 <:+ r := by
  unfold pInner
  split
  · exact (closeF_suffix _ _).trans ((ha _).trans (isC_suffix _ _))
  · exact isC_suffix _ _
theorem pOperand_suffix (s : List UInt8) : (pOperand all s).2 <:+ s := by
  have h := dropC_suffix 32 s
  unfold pOperand
  cases hd : dropC 32 s with
  | nil => exact List.nil_suffix
  | cons c r =>
    rw [hd] at h
    have hr := (List.suffix_cons c r).trans h
    simp only
    repeat' split
    · exact hr
    · exact (closeF_suffix _ _).trans ((ha _).trans hr)
    · exact (pInner_suffix ha _ _).trans hr
    · exact (pInner_suffix ha _ _).trans hr
    · exact (pInner_suffix ha _ _).trans hr
    · exact (numF_suffix _).trans h
theorem pPower_suffix (s : List UInt8) : (pPower all s).2 <:+ s := by
  have h := pOperand_suffix ha s
  unfold pPower
  split
  · rename_i t he; rw [he] at h; exact h
  · rename_i f t he
    rw [he] at h
    split
    · exact (numF_suffix _).trans ((isC_suffix _ _).trans h)
    · exact (isC_suffix _ _).trans h
theorem pSecond_suffix (k : Int) (f : Fun) (s : List UInt8) : (pSecond all k f s).2 <:+ s := by
  have h := pPower_suffix ha s
  unfold pSecond
  split
  · rename_i t he; rw [he] at h; exact h
  · rename_i g t he; rw [he] at h; exact h
end
theorem pAll_suffix : ∀ n s, (pAll n s).2 <:+ s
  | 0, s => by rw [pAll]; exact List.suffix_refl _
  | n + 1, s => by
    have h := pPower_suffix (pAll_suffix n) s
    rw [pAll]
    split
    · rename_i t he; rw [he] at h; exact h
    · rename_i f t he
      rw [he] at h
      split
      · exact (pSecond_suffix (pAll_suffix n) _ _ _).trans ((isC_suffix _ _).trans h)
      · split
        · exact (pSecond_suffix (pAll_suffix n) _ _ _).trans ((isC_suffix _ _).trans ((isC_suffix _ _).trans h))
        · exact (isC_suffix _ _).trans ((isC_suffix _ _).trans h)

theorem isC_cons {c : UInt8} (h : ¬ c = 32) (r : List UInt8) : isC c (c :: r) = (true, r) := by unfold isC; rw [dropC_ne h]; simp
def resP (x : PR) : Res := match x.1 with
  | some f => .ret (.agg f.cells)
  | none => .pan wrongA
@[simp] theorem resP_some (f : Fun) (t : List UInt8) : resP (some f, t) = .ret (.agg f.cells) := rfl
@[simp] theorem resP_none (t : List UInt8) : resP (none, t) = .pan wrongA := rfl
/-- all, at strings shorter than n. -/
def AllOk (id : Nat) (all : List UInt8 → PR) (n : Nat) : Prop := ∀ s (m : Mem), Sm s → s.length < n → m.bx[id]? = some [.str s] → evCall C0 19 [.ptr id 0] m = some (resP (all s), ⟨m.bx.set id [.str (all s).2], m.rw⟩)
theorem isC_true {c : UInt8} {s : List UInt8} (h : (isC c s).1 = true) : (isC c s).2.length < s.length := by
  have hl := dropC_length 32 s
  unfold isC at h ⊢
  cases hd : dropC 32 s with
  | nil => rw [hd] at h; cases h
  | cons b r =>
    rw [hd] at h hl
    simp only at h ⊢
    split at h
    · rename_i hb
      rw [if_pos hb]
      simp at hl ⊢
      omega
    · cases h

set_option maxHeartbeats 1000000 in
theorem ev_operand1 {id n : Nat} {all : List UInt8 → PR} (hall : AllOk id all n) (q : Nat) (hq : ¬ id = q) (k : Int) (c : UInt8) (r : List UInt8) (m : Mem) (h0 : c ≠ 0) (h32 : ¬ c = 32) (hs : Sm (c :: r)) (hn : r.length ≤ n) (hbx : m.bx[id]? = some [.str (c :: r)]) (hbq : m.bx[q]? = some [.ptr id 0]) :
    evCall C0 55 [.int .i64 k, .ptr q 0] m = some (resP (pInner all k r), ⟨m.bx.set id [.str (pInner all k r).2], m.rw⟩) := by
  have hid : id < m.bx.length := (List.getElem?_eq_some_iff.1 hbx).1
  have hqd : q < m.bx.length := (List.getElem?_eq_some_iff.1 hbq).1
  have hg : m.bx[id] = [.str (c :: r)] := (List.getElem?_eq_some_iff.1 hbx).2
  have hgq : m.bx[q] = [.ptr id 0] := (List.getElem?_eq_some_iff.1 hbq).2
  rw [evCall_body C0 (C0_ext _ (by decide)) (by rw [C0_P]; exact Tryd.func55) rfl (by rw [C0_ann]; rfl) (by decide) (by simp [Tryd.f55])]
  have e1 := ev_next id (c :: r) ⟨m.bx ++ [[.int .i64 0, .int .i64 0, .nils]], m.rw⟩ (by simp [at_lt, hid, hg])
  have e2 := ev_take id c h0 (c :: r) ⟨m.bx.set id [.str (c :: r)] ++ [[.int .i64 0, .int .i64 0, .nils]], m.rw⟩ (by simp [at_lt, hid])
  have e3 := ev_take id 40 (by decide) r ⟨m.bx.set id [.str r] ++ [[.int .i64 0, .int .i64 0, .nils]], m.rw⟩ (by simp [at_lt, hid])
  rw [dropC_ne h32] at e1
  rw [isC_cons h32] at e2
  unfold pInner
  cases h40 : (isC 40 r).1 with
  | false =>
    simp [set_lt, hid, h40] at e1 e2 e3
    simp [Tryd.f55, evOps_cons, wantA_some, argsTm, ann_keep_55, ann_recov_55, ann_reg_55, reg55, ann_draw_55, draw55, ann_dok_55, dok55, evDraw_cons, drawEnd, chkNeed, kindS, isEff, at_lt, set_lt, hid, hqd, hg, hgq, hq, e1, e2, e3, leave_setb]
    simp [wrongA]
  | true =>
  have hlt := isC_true h40
  have e4 := hall (isC 40 r).2 ⟨m.bx.set id [.str (isC 40 r).2] ++ [[.int .i64 0, .int .i64 0, .nils]], m.rw⟩ (hs.suffix ((isC_suffix _ _).trans (List.suffix_cons c r))) (by omega) (by simp [at_lt, hid])
  simp only [if_true]
  cases hal : all (isC 40 r).2 with
  | mk o u =>
  rw [hal] at e4
  cases o with
  | none =>
    simp [set_lt, hid, h40] at e1 e2 e3 e4
    simp [closeF]
    simp [Tryd.f55, evOps_cons, wantA_some, argsTm, ann_keep_55, ann_recov_55, ann_reg_55, reg55, ann_draw_55, draw55, ann_dok_55, dok55, evDraw_cons, drawEnd, chkNeed, kindS, isEff, at_lt, set_lt, hid, hqd, hg, hgq, hq, e1, e2, e3, e4, leave_setb]
    simp [wrongA]
  | some g =>
  have e5 := ev_take id 41 (by decide) u ⟨m.bx.set id [.str u] ++ [[.int .i64 0, .int .i64 0, .nils], g.cells], m.rw⟩ (by simp [at_lt, hid])
  simp only [closeF]
  cases h41 : (isC 41 u).1 with
  | false =>
    simp [set_lt, hid, h40, h41] at e1 e2 e3 e4 e5
    simp [Tryd.f55, evOps_cons, wantA_some, argsTm, ann_keep_55, ann_recov_55, ann_reg_55, reg55, ann_draw_55, draw55, ann_dok_55, dok55, evDraw_cons, drawEnd, chkNeed, kindS, isEff, at_lt, set_lt, hid, hqd, hg, hgq, hq, e1, e2, e3, e4, e5, leave_setb]
    simp [wrongA]
  | true =>
  simp [set_lt, hid, h40, h41] at e1 e2 e3 e4 e5
  simp [Tryd.f55, evOps_cons, wantA_some, argsTm, ann_keep_55, ann_recov_55, ann_reg_55, reg55, ann_draw_55, draw55, ann_dok_55, dok55, evDraw_cons, drawEnd, chkNeed, kindS, isEff, at_lt, set_lt, hid, hqd, hg, hgq, hq, e1, e2, e3, e4, e5, leave_setb]

set_option maxHeartbeats 4000000 in
theorem ev_operand {id n : Nat} {all : List UInt8 → PR} (hall : AllOk id all n) (s : List UInt8) (m : Mem) (hs : Sm s) (hn : s.length ≤ n) (hbx : m.bx[id]? = some [.str s]) :
    evCall C0 44 [.ptr id 0] m = some (resP (pOperand all s), ⟨m.bx.set id [.str (pOperand all s).2], m.rw⟩) := by
  have hid : id < m.bx.length := (List.getElem?_eq_some_iff.1 hbx).1
  have hg : m.bx[id] = [.str s] := (List.getElem?_eq_some_iff.1 hbx).2
  have hdl := dropC_length 32 s
  unfold pOperand
  rw [evCall_body C0 (C0_ext _ (by decide)) (by rw [C0_P]; exact Tryd.func44) rfl (by rw [C0_ann]; rfl) (by decide) (by simp [Tryd.f44])]
  have e1 := ev_next id s ⟨m.bx ++ [[.ptr id 0], [.int .i64 0, .int .i64 0, .nils]], m.rw⟩ (by simp [at_lt, hid, hg])
  cases hd : dropC 32 s with
  | nil =>
    rw [hd] at e1
    simp [set_lt, hid] at e1
    have e2 := ev_number id [] (by simp) ⟨m.bx.set id [.str []] ++ [[.ptr id 0], [.int .i64 0, .int .i64 0, .nils]], m.rw⟩ (by simp [at_lt, hid])
    have hn0 : numF [] = (none, []) := rfl
    rw [hn0] at e2
    simp [set_lt, hid] at e2
    simp [Tryd.f44, evOps_cons, wantA_some, argsTm, ann_keep_44, ann_recov_44, ann_reg_44, reg44, at_lt, set_lt, hid, e1, e2, leave_setb]
    simp [wrongA]
  | cons c r =>
  rw [hd] at e1 hdl
  have hrl : r.length < n := by simp at hdl; omega
  simp only
  have hs1 : Sm (c :: r) := hs.suffix (by rw [← hd]; exact dropC_suffix 32 s)
  have hsr : Sm r := hs1.suffix (List.suffix_cons c r)
  simp [set_lt, hid] at e1
  by_cases c88 : c = 88
  · subst c88
    have e2 := ev_take id 88 (by decide) (88 :: r) ⟨m.bx.set id [.str (88 :: r)] ++ [[.ptr id 0], [.int .i64 0, .int .i64 0, .nils]], m.rw⟩ (by simp [at_lt, hid])
    rw [isC_cons (by decide)] at e2
    simp [set_lt, hid] at e2
    simp [Tryd.f44, evOps_cons, wantA_some, argsTm, ann_keep_44, ann_recov_44, ann_reg_44, reg44, at_lt, set_lt, hid, e1, e2, leave_setb]
  rw [if_neg c88]
  have n88 : ¬ (c.toNat : Int) = 88 := fun h => c88 ((byte_eq c 88).1 h)
  by_cases c40 : c = 40
  · subst c40
    rw [if_pos rfl]
    have e2 := ev_take id 40 (by decide) (40 :: r) ⟨m.bx.set id [.str (40 :: r)] ++ [[.ptr id 0], [.int .i64 0, .int .i64 0, .nils]], m.rw⟩ (by simp [at_lt, hid])
    have e4 := hall r ⟨m.bx.set id [.str r] ++ [[.ptr id 0], [.int .i64 0, .int .i64 0, .nils]], m.rw⟩ hsr hrl (by simp [at_lt, hid])
    rw [isC_cons (by decide)] at e2
    cases hal : all r with
    | mk o u =>
    rw [hal] at e4
    cases o with
    | none =>
      simp [set_lt, hid] at e2 e4
      simp [closeF]
      simp [Tryd.f44, evOps_cons, wantA_some, argsTm, ann_keep_44, ann_recov_44, ann_reg_44, reg44, at_lt, set_lt, hid, e1, e2, e4, leave_setb]
      simp [wrongA]
    | some g =>
    have e5 := ev_take id 41 (by decide) u ⟨m.bx.set id [.str u] ++ [[.ptr id 0], [.int .i64 0, .int .i64 0, .nils], g.cells], m.rw⟩ (by simp [at_lt, hid])
    simp only [closeF]
    cases h41 : (isC 41 u).1 with
    | false =>
      simp [set_lt, hid, h41] at e2 e4 e5
      simp [Tryd.f44, evOps_cons, wantA_some, argsTm, ann_keep_44, ann_recov_44, ann_reg_44, reg44, at_lt, set_lt, hid, e1, e2, e4, e5, leave_setb]
      simp [wrongA]
    | true =>
    simp [set_lt, hid, h41] at e2 e4 e5
    simp [Tryd.f44, evOps_cons, wantA_some, argsTm, ann_keep_44, ann_recov_44, ann_reg_44, reg44, at_lt, set_lt, hid, e1, e2, e4, e5, leave_setb]
  rw [if_neg c40]
  have n40 : ¬ (c.toNat : Int) = 40 := fun h => c40 ((byte_eq c 40).1 h)
  by_cases c80 : c = 80
  · subst c80
    rw [if_pos rfl]
    have e2 := ev_operand1 hall (m.bx.length) (by omega) 5 80 r ⟨m.bx.set id [.str (80 :: r)] ++ [[.ptr id 0], [.int .i64 0, .int .i64 0, .nils]], m.rw⟩ (by decide) (by decide) hs1 (by omega) (by simp [at_lt, hid]) (by simp)
    cases hal : pInner all 5 r with
    | mk o u =>
    rw [hal] at e2
    cases o with
    | none =>
      simp [set_lt, hid] at e2
      simp [Tryd.f44, evOps_cons, wantA_some, argsTm, ann_keep_44, ann_recov_44, ann_reg_44, reg44, at_lt, set_lt, hid, e1, e2, leave_setb]
      simp [wrongA]
    | some g =>
    simp [set_lt, hid] at e2
    simp [Tryd.f44, evOps_cons, wantA_some, argsTm, ann_keep_44, ann_recov_44, ann_reg_44, reg44, at_lt, set_lt, hid, e1, e2, leave_setb]
  rw [if_neg c80]
  have n80 : ¬ (c.toNat : Int) = 80 := fun h => c80 ((byte_eq c 80).1 h)
  by_cases c66 : c = 66
  · subst c66
    rw [if_pos rfl]
    have e2 := ev_operand1 hall (m.bx.length) (by omega) 6 66 r ⟨m.bx.set id [.str (66 :: r)] ++ [[.ptr id 0], [.int .i64 0, .int .i64 0, .nils]], m.rw⟩ (by decide) (by decide) hs1 (by omega) (by simp [at_lt, hid]) (by simp)
    cases hal : pInner all 6 r with
    | mk o u =>
    rw [hal] at e2
    cases o with
    | none =>
      simp [set_lt, hid] at e2
      simp [Tryd.f44, evOps_cons, wantA_some, argsTm, ann_keep_44, ann_recov_44, ann_reg_44, reg44, at_lt, set_lt, hid, e1, e2, leave_setb]
      simp [wrongA]
    | some g =>
    simp [set_lt, hid] at e2
    simp [Tryd.f44, evOps_cons, wantA_some, argsTm, ann_keep_44, ann_recov_44, ann_reg_44, reg44, at_lt, set_lt, hid, e1, e2, leave_setb]
  rw [if_neg c66]
  have n66 : ¬ (c.toNat : Int) = 66 := fun h => c66 ((byte_eq c 66).1 h)
  by_cases c68 : c = 68
  · subst c68
    rw [if_pos rfl]
    have e2 := ev_operand1 hall (m.bx.length) (by omega) 7 68 r ⟨m.bx.set id [.str (68 :: r)] ++ [[.ptr id 0], [.int .i64 0, .int .i64 0, .nils]], m.rw⟩ (by decide) (by decide) hs1 (by omega) (by simp [at_lt, hid]) (by simp)
    cases hal : pInner all 7 r with
    | mk o u =>
    rw [hal] at e2
    cases o with
    | none =>
      simp [set_lt, hid] at e2
      simp [Tryd.f44, evOps_cons, wantA_some, argsTm, ann_keep_44, ann_recov_44, ann_reg_44, reg44, at_lt, set_lt, hid, e1, e2, leave_setb]
      simp [wrongA]
    | some g =>
    simp [set_lt, hid] at e2
    simp [Tryd.f44, evOps_cons, wantA_some, argsTm, ann_keep_44, ann_recov_44, ann_reg_44, reg44, at_lt, set_lt, hid, e1, e2, leave_setb]
  rw [if_neg c68]
  have n68 : ¬ (c.toNat : Int) = 68 := fun h => c68 ((byte_eq c 68).1 h)
  have e2 := ev_number id (c :: r) hs1 ⟨m.bx.set id [.str (c :: r)] ++ [[.ptr id 0], [.int .i64 0, .int .i64 0, .nils]], m.rw⟩ (by simp [at_lt, hid])
  cases hn : numF (c :: r) with
  | mk o u =>
  rw [hn] at e2
  cases o with
  | none =>
    simp [set_lt, hid] at e2
    simp [Tryd.f44, evOps_cons, wantA_some, argsTm, ann_keep_44, ann_recov_44, ann_reg_44, reg44, at_lt, set_lt, hid, e1, e2, leave_setb, n88, n40, n80, n66, n68]
    simp [wrongA]
  | some k =>
  simp [set_lt, hid] at e2
  simp [Tryd.f44, evOps_cons, wantA_some, argsTm, ann_keep_44, ann_recov_44, ann_reg_44, reg44, at_lt, set_lt, hid, e1, e2, leave_setb, n88, n40, n80, n66, n68]

set_option maxHeartbeats 4000000 in
theorem ev_power {id n : Nat} {all : List UInt8 → PR} (ha : ∀ s, (all s).2 <:+ s) (hall : AllOk id all n) (s : List UInt8) (m : Mem) (hs : Sm s) (hn : s.length ≤ n) (hbx : m.bx[id]? = some [.str s]) :
    evCall C0 30 [.ptr id 0] m = some (resP (pPower all s), ⟨m.bx.set id [.str (pPower all s).2], m.rw⟩) := by
  have hid : id < m.bx.length := (List.getElem?_eq_some_iff.1 hbx).1
  have hg : m.bx[id] = [.str s] := (List.getElem?_eq_some_iff.1 hbx).2
  unfold pPower
  have e1 := ev_operand hall s ⟨m.bx ++ [[.int .i64 0, .int .i64 0, .nils]], m.rw⟩ hs hn (by simp [at_lt, hid, hg])
  have hsuf := pOperand_suffix ha s
  rw [evCall_body C0 (C0_ext _ (by decide)) (by rw [C0_P]; exact Tryd.func30) rfl (by rw [C0_ann]; rfl) (by decide) (by simp [Tryd.f30])]
  cases ho : pOperand all s with
  | mk o u =>
  rw [ho] at e1 hsuf
  cases o with
  | none =>
    simp [set_lt, hid] at e1
    simp [Tryd.f30, evOps_cons, wantA_some, argsTm, ann_keep_30, ann_recov_30, ann_reg_30, reg30, ann_draw_30, draw30, ann_dok_30, dok30, evDraw_cons, drawEnd, chkNeed, kindS, isEff, at_lt, set_lt, hid, e1, leave_setb]
    simp [wrongA]
  | some g =>
  have hu : Sm u := hs.suffix hsuf
  have e2 := ev_is id 94 (by decide) u ⟨m.bx.set id [.str u] ++ [[.int .i64 0, .int .i64 0, .nils], g.cells], m.rw⟩ (by simp [at_lt, hid])
  simp [set_lt, hid] at e1 e2
  simp only
  cases h94 : (isC 94 u).1 with
  | false =>
    simp [h94] at e2
    simp [Tryd.f30, evOps_cons, wantA_some, argsTm, ann_keep_30, ann_recov_30, ann_reg_30, reg30, ann_draw_30, draw30, ann_dok_30, dok30, evDraw_cons, drawEnd, chkNeed, kindS, isEff, at_lt, set_lt, hid, e1, e2, leave_setb]
  | true =>
    simp [h94] at e2
    have hu2 : Sm (isC 94 u).2 := hu.suffix (isC_suffix _ _)
    have e3 := ev_number id (isC 94 u).2 hu2 ⟨m.bx.set id [.str (isC 94 u).2] ++ [[.int .i64 0, .int .i64 0, .nils], g.cells], m.rw⟩ (by simp [at_lt, hid])
    cases hn : numF (isC 94 u).2 with
    | mk o v =>
    rw [hn] at e3
    cases o with
    | none =>
      simp [set_lt, hid] at e3
      simp [Tryd.f30, evOps_cons, wantA_some, argsTm, ann_keep_30, ann_recov_30, ann_reg_30, reg30, ann_draw_30, draw30, ann_dok_30, dok30, evDraw_cons, drawEnd, chkNeed, kindS, isEff, at_lt, set_lt, hid, e1, e2, e3, leave_setb, afterP, maskTm, hn, opA, kindA]
      simp [wrongA]
    | some k =>
    simp [set_lt, hid] at e3
    simp [Tryd.f30, evOps_cons, wantA_some, argsTm, ann_keep_30, ann_recov_30, ann_reg_30, reg30, ann_draw_30, draw30, ann_dok_30, dok30, evDraw_cons, drawEnd, chkNeed, kindS, isEff, at_lt, set_lt, hid, e1, e2, e3, leave_setb, hn]

set_option maxHeartbeats 4000000 in
theorem ev_all (id : Nat) : ∀ n, AllOk id (pAll n) n := by
  intro n
  induction n with
  | zero => intro s m hs hn; omega
  | succ n ih =>
  intro s m hs hn hbx
  have hid : id < m.bx.length := (List.getElem?_eq_some_iff.1 hbx).1
  have hg : m.bx[id] = [.str s] := (List.getElem?_eq_some_iff.1 hbx).2
  rw [pAll]
  have e1 := ev_power (pAll_suffix n) ih s ⟨m.bx ++ [[.int .i64 0, .int .i64 0, .nils]], m.rw⟩ hs (by omega) (by simp [at_lt, hid, hg])
  have hsuf := pPower_suffix (pAll_suffix n) s
  rw [evCall_body C0 (C0_ext _ (by decide)) (by rw [C0_P]; exact Tryd.func19) rfl (by rw [C0_ann]; rfl) (by decide) (by simp [Tryd.f19])]
  cases ho : pPower (pAll n) s with
  | mk o u =>
  rw [ho] at e1 hsuf
  cases o with
  | none =>
    simp [set_lt, hid] at e1
    simp [Tryd.f19, evOps_cons, wantA_some, argsTm, ann_keep_19, ann_recov_19, ann_reg_19, reg19, ann_draw_19, draw19, ann_dok_19, dok19, evDraw_cons, drawEnd, chkNeed, kindS, isEff, at_lt, set_lt, hid, e1, leave_setb]
    simp [wrongA]
  | some g =>
  have hu : Sm u := hs.suffix hsuf
  have hul : u.length ≤ s.length := hsuf.length_le
  have e2 := ev_is id 42 (by decide) u ⟨m.bx.set id [.str u] ++ [[.int .i64 0, .int .i64 0, .nils], g.cells], m.rw⟩ (by simp [at_lt, hid])
  simp [set_lt, hid] at e1 e2
  have hu2 : Sm (isC 42 u).2 := hu.suffix (isC_suffix _ _)
  have hu2l := (isC_suffix 42 u).length_le
  simp only
  cases h42 : (isC 42 u).1 with
  | true =>
    simp only [if_true, pSecond]
    simp [h42] at e2
    have e3 := ev_power (pAll_suffix n) ih (isC 42 u).2 ⟨m.bx.set id [.str (isC 42 u).2] ++ [[.int .i64 0, .int .i64 0, .nils], g.cells], m.rw⟩ hu2 (by omega) (by simp [at_lt, hid])
    cases hp : pPower (pAll n) (isC 42 u).2 with
    | mk o v =>
    rw [hp] at e3
    cases o with
    | none =>
      simp [set_lt, hid] at e3
      simp [Tryd.f19, evOps_cons, wantA_some, argsTm, ann_keep_19, ann_recov_19, ann_reg_19, reg19, ann_draw_19, draw19, ann_dok_19, dok19, evDraw_cons, drawEnd, chkNeed, kindS, isEff, at_lt, set_lt, hid, e1, e2, e3, leave_setb, afterP, maskTm]
      simp [wrongA]
    | some h =>
    simp [set_lt, hid] at e3
    simp [Tryd.f19, evOps_cons, wantA_some, argsTm, ann_keep_19, ann_recov_19, ann_reg_19, reg19, ann_draw_19, draw19, ann_dok_19, dok19, evDraw_cons, drawEnd, chkNeed, kindS, isEff, at_lt, set_lt, hid, e1, e2, e3, leave_setb]
  | false =>
    simp [h42] at e2
    have e3 := ev_is id 43 (by decide) (isC 42 u).2 ⟨m.bx.set id [.str (isC 42 u).2] ++ [[.int .i64 0, .int .i64 0, .nils], g.cells], m.rw⟩ (by simp [at_lt, hid])
    have hu3 : Sm (isC 43 (isC 42 u).2).2 := hu2.suffix (isC_suffix _ _)
    have hu3l := (isC_suffix 43 (isC 42 u).2).length_le
    simp [set_lt, hid] at e3
    simp only [Bool.false_eq_true, if_false]
    cases h43 : (isC 43 (isC 42 u).2).1 with
    | false =>
      simp [h43] at e3
      simp [Tryd.f19, evOps_cons, wantA_some, argsTm, ann_keep_19, ann_recov_19, ann_reg_19, reg19, ann_draw_19, draw19, ann_dok_19, dok19, evDraw_cons, drawEnd, chkNeed, kindS, isEff, at_lt, set_lt, hid, e1, e2, e3, leave_setb]
    | true =>
      simp only [if_true, pSecond]
      simp [h43] at e3
      have e4 := ev_power (pAll_suffix n) ih (isC 43 (isC 42 u).2).2 ⟨m.bx.set id [.str (isC 43 (isC 42 u).2).2] ++ [[.int .i64 0, .int .i64 0, .nils], g.cells], m.rw⟩ hu3 (by omega) (by simp [at_lt, hid])
      cases hp : pPower (pAll n) (isC 43 (isC 42 u).2).2 with
      | mk o v =>
      rw [hp] at e4
      cases o with
      | none =>
        simp [set_lt, hid] at e4
        simp [Tryd.f19, evOps_cons, wantA_some, argsTm, ann_keep_19, ann_recov_19, ann_reg_19, reg19, ann_draw_19, draw19, ann_dok_19, dok19, evDraw_cons, drawEnd, chkNeed, kindS, isEff, at_lt, set_lt, hid, e1, e2, e3, e4, leave_setb, afterP, maskTm]
        simp [wrongA]
      | some h =>
      simp [set_lt, hid] at e4
      simp [Tryd.f19, evOps_cons, wantA_some, argsTm, ann_keep_19, ann_recov_19, ann_reg_19, reg19, ann_draw_19, draw19, ann_dok_19, dok19, evDraw_cons, drawEnd, chkNeed, kindS, isEff, at_lt, set_lt, hid, e1, e2, e3, e4, leave_setb]
end AE
end Go.Proofs.YtbgppidldpepaaaDoor
