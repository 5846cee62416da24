/- The parser. -/
import Derived.Test.YtdifmcdgnbnhiaaDoorAF6
set_option linter.unusedVariables false
set_option linter.unusedSimpArgs false
namespace Go.Proofs.YtdifmcdgnbnhiaaDoor
namespace AE
open Go

@[simp] theorem Fun.cellsL_cons (f : Fun) (r : List Fun) : Fun.cellsL (f :: r) = f.cells ++ Fun.cellsL r := by rw [Fun.cellsL]
abbrev PR := Option Fun × List UInt8
def closeF (k : Fun → Fun) (x : PR) : PR := match x with
  | (some f, t) => if (isC 41 t).1 then (some (k f), (isC 41 t).2) else (none, (isC 41 t).2)
  | (none, t) => (none, t)
def pInner (all : List UInt8 → PR) (kind : Int) (r : List UInt8) : PR := if (isC 40 r).1 then closeF (fun f => .mk kind 0 [f]) (all (isC 40 r).2) else (none, (isC 40 r).2)
def pOperand (all : List UInt8 → PR) (s : List UInt8) : PR := match dropC 32 s with
  | [] => (none, [])
  | c :: r => if c = 88 then (some (.mk 0 0 []), r) else if c = 40 then closeF _root_.id (all r) else if c = 80 then pInner all 5 r else if c = 66 then pInner all 6 r else if c = 68 then pInner all 7 r else ((numF (c :: r)).1.map fun k => .mk 1 k [], (numF (c :: r)).2)
def pPower (all : List UInt8 → PR) (s : List UInt8) : PR := match pOperand all s with
  | (none, t) => (none, t)
  | (some f, t) => if (isC 94 t).1 then ((numF (isC 94 t).2).1.map fun k => .mk 4 k [f], (numF (isC 94 t).2).2) else (some f, (isC 94 t).2)
def pSecond (all : List UInt8 → PR) (kind : Int) (f : Fun) (u : List UInt8) : PR := match pPower all u with
  | (none, v) => (none, v)
  | (some g, v) => (some (.mk kind 0 [f, g]), v)
def pAll : Nat → List UInt8 → PR
  | 0, s => (none, s)
  | n + 1, s => match pPower (pAll n) s with
    | (none, t) => (none, t)
    | (some f, t) => if (isC 42 t).1 then pSecond (pAll n) 2 f (isC 42 t).2 else if (isC 43 (isC 42 t).2).1 then pSecond (pAll n) 3 f (isC 43 (isC 42 t).2).2 else (some f, (isC 43 (isC 42 t).2).2)

/-- All numbers in it are short. -/
def Sm (s : List UInt8) : Prop := s.length ≤ 1000000 ∧ ∀ u, u <:+ s → (dropC 48 (u.take (digN u))).length < 19
theorem Sm.suffix {s t : List UInt8} (h : Sm s) (k : t <:+ s) : Sm t := ⟨by have := k.length_le; have := h.1; omega, fun u hu => h.2 u (hu.trans k)⟩
theorem dropC_suffix (c : UInt8) (s : List UInt8) : dropC c s <:+ s := List.dropWhile_suffix _
theorem isC_suffix (c : UInt8) (s : List UInt8) : (isC c s).2 <:+ s := by
  have h := dropC_suffix 32 s
  unfold isC
  cases hd : dropC 32 s with
  | nil => exact List.nil_suffix
  | cons b r =>
    rw [hd] at h
    simp only
    split
    · exact (List.suffix_cons b r).trans h
    · exact h
theorem numF_suffix (s : List UInt8) : (numF s).2 <:+ s := by
  have h := dropC_suffix 32 s
  unfold numF
  simp only
  split
  · exact h
  · exact (List.drop_suffix _ _).trans h
theorem closeF_suffix (k : Fun → Fun) (x : PR) : (closeF k x).2 <:+ x.2 := by
  unfold closeF
  split
  · split <;> exact isC_suffix _ _
  · exact List.suffix_refl _
section
variable {all : List UInt8 → PR} (ha : ∀ s, (all s).2 <:+ s)
include ha
theorem pInner_suffix (k : Int) (r : List UInt8) : (pInner all k r).2 <:+ r := by
  unfold pInner
  split
  · exact (closeF_suffix _ _).trans ((ha _).trans (isC_suffix _ _))
  · exact isC_suffix _ _
theorem pOperand_suffix (s : List UInt8) : (pOperand all s).2 <:+ s := by
  have h := dropC_suffix 32 s
  unfold pOperand
  cases hd : dropC 32 s with
  | nil => exact List.nil_suffix
  | cons c r =>
    rw [hd] at h
    have hr := (List.suffix_cons c r).trans h
    simp only
    repeat' split
    · exact hr
    · exact (closeF_suffix _ _).trans ((ha _).trans hr)
    · exact (pInner_suffix ha _ _).trans hr
    · exact (pInner_suffix ha _ _).trans hr
    · exact (pInner_suffix ha _ _).trans hr
    · exact (numF_suffix _).trans h
theorem pPower_suffix (s : List UInt8) : (pPower all s).2 <:+ s := by
  have h := pOperand_suffix ha s
  unfold pPower
  split
  · rename_i t he; rw [he] at h; exact h
  · rename_i f t he
    rw [he] at h
    split
    · exact (numF_suffix _).trans ((isC_suffix _ _).trans h)
    · exact (isC_suffix _ _).trans h
theorem pSecond_suffix (k : Int) (f : Fun) (s : List UInt8) : (pSecond all k f s).2 <:+ s := by
  have h := pPower_suffix ha s
  unfold pSecond
  split
  · rename_i t he; rw [he] at h; exact h
  · rename_i g t he; rw [he] at h; exact h
end
theorem pAll_suffix : ∀ n s, (pAll n s).2 <:+ s
  | 0, s => by rw [pAll]; exact List.suffix_refl _
  | n + 1, s => by
    have h := pPower_suffix (pAll_suffix n) s
    rw [pAll]
    split
    · rename_i t he; rw [he] at h; exact h
    · rename_i f t he
      rw [he] at h
      split
      · exact (pSecond_suffix (pAll_suffix n) _ _ _).trans ((isC_suffix _ _).trans h)
      · split
        · exact (pSecond_suffix (pAll_suffix n) _ _ _).trans ((isC_suffix _ _).trans ((isC_suffix _ _).trans h))
        · exact (isC_suffix _ _).trans ((isC_suffix _ _).trans h)

theorem isC_cons {c : UInt8} (h : ¬ c = 32) (r : List UInt8) : isC c (c :: r) = (true, r) := by unfold isC; rw [dropC_ne h]; simp
/-- all, where it returns. -/
def AllOk (id : Nat) (all : List UInt8 → PR) : Prop := ∀ s f t (m : Mem), Sm s → all s = (some f, t) → m.bx[id]? = some [.str s] → evCall C0 31 [.ptr id 0] m = some (.ret (.agg f.cells), ⟨m.bx.set id [.str t], m.rw⟩)

set_option maxHeartbeats 1000000 in
theorem ev_operand1 {id : Nat} {all : List UInt8 → PR} (hall : AllOk id all) (q : Nat) (hq : ¬ id = q) (k : Int) (c : UInt8) (r t : List UInt8) (f : Fun) (m : Mem) (h0 : c ≠ 0) (h32 : ¬ c = 32) (hs : Sm (c :: r)) (he : pInner all k r = (some f, t)) (hbx : m.bx[id]? = some [.str (c :: r)]) (hbq : m.bx[q]? = some [.ptr id 0]) :
    evCall C0 69 [.int .i64 k, .ptr q 0] m = some (.ret (.agg f.cells), ⟨m.bx.set id [.str t], m.rw⟩) := by
  have hid : id < m.bx.length := (List.getElem?_eq_some_iff.1 hbx).1
  have hqd : q < m.bx.length := (List.getElem?_eq_some_iff.1 hbq).1
  have hg : m.bx[id] = [.str (c :: r)] := (List.getElem?_eq_some_iff.1 hbx).2
  have hgq : m.bx[q] = [.ptr id 0] := (List.getElem?_eq_some_iff.1 hbq).2
  unfold pInner at he
  cases h40 : (isC 40 r).1 with
  | false => simp [h40] at he
  | true =>
  simp only [h40, if_true] at he
  cases hal : all (isC 40 r).2 with
  | mk o u =>
  cases o with
  | none => rw [hal] at he; simp [closeF] at he
  | some g =>
  rw [hal] at he
  simp only [closeF] at he
  cases h41 : (isC 41 u).1 with
  | false => simp [h41] at he
  | true =>
  simp only [h41, if_true, Prod.mk.injEq, Option.some.injEq] at he
  obtain ⟨rfl, rfl⟩ := he
  rw [evCall_body C0 (C0_ext _) (by rw [C0_P]; exact Tryd.func69) rfl (by rw [C0_ann]; rfl) (by decide) (by simp [Tryd.f69])]
  have e1 := ev_next id (c :: r) ⟨m.bx ++ [[.int .i64 0, .int .i64 0, .nils]], m.rw⟩ (by simp [at_lt, hid, hg])
  have e2 := ev_take id c h0 (c :: r) ⟨m.bx.set id [.str (c :: r)] ++ [[.int .i64 0, .int .i64 0, .nils]], m.rw⟩ (by simp [at_lt, hid])
  have e3 := ev_take id 40 (by decide) r ⟨m.bx.set id [.str r] ++ [[.int .i64 0, .int .i64 0, .nils]], m.rw⟩ (by simp [at_lt, hid])
  have e4 := hall _ _ _ ⟨m.bx.set id [.str (isC 40 r).2] ++ [[.int .i64 0, .int .i64 0, .nils]], m.rw⟩ (hs.suffix ((isC_suffix _ _).trans (List.suffix_cons c r))) hal (by simp [at_lt, hid])
  have e5 := ev_take id 41 (by decide) u ⟨m.bx.set id [.str u] ++ [[.int .i64 0, .int .i64 0, .nils], g.cells], m.rw⟩ (by simp [at_lt, hid])
  rw [dropC_ne h32] at e1
  rw [isC_cons h32] at e2
  simp [set_lt, hid, h40, h41] at e1 e2 e3 e4 e5
  simp [Tryd.f69, evOps_cons, wantA_some, argsTm, ann_keep_69, ann_recov_69, ann_reg_69, reg69, ann_draw_69, draw69, ann_dok_69, dok69, evDraw_cons, drawEnd, chkNeed, kindS, isEff, at_lt, set_lt, hid, hqd, hg, hgq, hq, e1, e2, e3, e4, e5, leave_setb]

theorem numF_19 {s : List UInt8} (h : Sm s) : (dropC 48 ((dropC 32 s).take (digN (dropC 32 s)))).length < 19 := h.2 _ (dropC_suffix 32 s)
set_option maxHeartbeats 2000000 in
theorem ev_operand {id : Nat} {all : List UInt8 → PR} (hall : AllOk id all) (s t : List UInt8) (f : Fun) (m : Mem) (hs : Sm s) (he : pOperand all s = (some f, t)) (hbx : m.bx[id]? = some [.str s]) :
    evCall C0 58 [.ptr id 0] m = some (.ret (.agg f.cells), ⟨m.bx.set id [.str t], m.rw⟩) := by
  have hid : id < m.bx.length := (List.getElem?_eq_some_iff.1 hbx).1
  have hg : m.bx[id] = [.str s] := (List.getElem?_eq_some_iff.1 hbx).2
  unfold pOperand at he
  cases hd : dropC 32 s with
  | nil => rw [hd] at he; cases he
  | cons c r =>
  rw [hd] at he
  simp only at he
  have hs1 : Sm (c :: r) := hs.suffix (by rw [← hd]; exact dropC_suffix 32 s)
  have hsr : Sm r := hs1.suffix (List.suffix_cons c r)
  rw [evCall_body C0 (C0_ext _) (by rw [C0_P]; exact Tryd.func58) rfl (by rw [C0_ann]; rfl) (by decide) (by simp [Tryd.f58])]
  have e1 := ev_next id s ⟨m.bx ++ [[.ptr id 0], [.int .i64 0, .int .i64 0, .nils]], m.rw⟩ (by simp [at_lt, hid, hg])
  rw [hd] at e1
  simp [set_lt, hid] at e1
  by_cases c88 : c = 88
  · subst c88
    simp only [if_true, Prod.mk.injEq, Option.some.injEq] at he
    obtain ⟨rfl, rfl⟩ := he
    have e2 := ev_take id 88 (by decide) (88 :: r) ⟨m.bx.set id [.str (88 :: r)] ++ [[.ptr id 0], [.int .i64 0, .int .i64 0, .nils]], m.rw⟩ (by simp [at_lt, hid])
    rw [isC_cons (by decide)] at e2
    simp [set_lt, hid] at e2
    simp [Tryd.f58, evOps_cons, wantA_some, argsTm, ann_keep_58, ann_recov_58, ann_reg_58, reg58, at_lt, set_lt, hid, e1, e2, leave_setb]
  rw [if_neg c88] at he
  have n88 : ¬ (c.toNat : Int) = 88 := fun h => c88 ((byte_eq c 88).1 h)
  by_cases c40 : c = 40
  · subst c40
    rw [if_pos rfl] at he
    cases hal : all r with
    | mk o u =>
    cases o with
    | none => rw [hal] at he; simp [closeF] at he
    | some g =>
    rw [hal] at he
    simp only [closeF] at he
    cases h41 : (isC 41 u).1 with
    | false => simp [h41] at he
    | true =>
    simp only [h41, if_true, Prod.mk.injEq, Option.some.injEq, _root_.id] at he
    obtain ⟨rfl, rfl⟩ := he
    have e2 := ev_take id 40 (by decide) (40 :: r) ⟨m.bx.set id [.str (40 :: r)] ++ [[.ptr id 0], [.int .i64 0, .int .i64 0, .nils]], m.rw⟩ (by simp [at_lt, hid])
    have e4 := hall _ _ _ ⟨m.bx.set id [.str r] ++ [[.ptr id 0], [.int .i64 0, .int .i64 0, .nils]], m.rw⟩ hsr hal (by simp [at_lt, hid])
    have e5 := ev_take id 41 (by decide) u ⟨m.bx.set id [.str u] ++ [[.ptr id 0], [.int .i64 0, .int .i64 0, .nils], g.cells], m.rw⟩ (by simp [at_lt, hid])
    rw [isC_cons (by decide)] at e2
    simp [set_lt, hid, h41] at e2 e4 e5
    simp [Tryd.f58, evOps_cons, wantA_some, argsTm, ann_keep_58, ann_recov_58, ann_reg_58, reg58, at_lt, set_lt, hid, e1, e2, e4, e5, leave_setb]
  rw [if_neg c40] at he
  have n40 : ¬ (c.toNat : Int) = 40 := fun h => c40 ((byte_eq c 40).1 h)
  by_cases c80 : c = 80
  · subst c80
    rw [if_pos rfl] at he
    have e2 := ev_operand1 hall (m.bx.length) (by omega) 5 80 r t f ⟨m.bx.set id [.str (80 :: r)] ++ [[.ptr id 0], [.int .i64 0, .int .i64 0, .nils]], m.rw⟩ (by decide) (by decide) hs1 he (by simp [at_lt, hid]) (by simp)
    simp [set_lt, hid] at e2
    simp [Tryd.f58, evOps_cons, wantA_some, argsTm, ann_keep_58, ann_recov_58, ann_reg_58, reg58, at_lt, set_lt, hid, e1, e2, leave_setb]
  rw [if_neg c80] at he
  have n80 : ¬ (c.toNat : Int) = 80 := fun h => c80 ((byte_eq c 80).1 h)
  by_cases c66 : c = 66
  · subst c66
    rw [if_pos rfl] at he
    have e2 := ev_operand1 hall (m.bx.length) (by omega) 6 66 r t f ⟨m.bx.set id [.str (66 :: r)] ++ [[.ptr id 0], [.int .i64 0, .int .i64 0, .nils]], m.rw⟩ (by decide) (by decide) hs1 he (by simp [at_lt, hid]) (by simp)
    simp [set_lt, hid] at e2
    simp [Tryd.f58, evOps_cons, wantA_some, argsTm, ann_keep_58, ann_recov_58, ann_reg_58, reg58, at_lt, set_lt, hid, e1, e2, leave_setb]
  rw [if_neg c66] at he
  have n66 : ¬ (c.toNat : Int) = 66 := fun h => c66 ((byte_eq c 66).1 h)
  by_cases c68 : c = 68
  · subst c68
    rw [if_pos rfl] at he
    have e2 := ev_operand1 hall (m.bx.length) (by omega) 7 68 r t f ⟨m.bx.set id [.str (68 :: r)] ++ [[.ptr id 0], [.int .i64 0, .int .i64 0, .nils]], m.rw⟩ (by decide) (by decide) hs1 he (by simp [at_lt, hid]) (by simp)
    simp [set_lt, hid] at e2
    simp [Tryd.f58, evOps_cons, wantA_some, argsTm, ann_keep_58, ann_recov_58, ann_reg_58, reg58, at_lt, set_lt, hid, e1, e2, leave_setb]
  rw [if_neg c68] at he
  have n68 : ¬ (c.toNat : Int) = 68 := fun h => c68 ((byte_eq c 68).1 h)
  have e2 := ev_number id (c :: r) hs1.1 (numF_19 hs1) ⟨m.bx.set id [.str (c :: r)] ++ [[.ptr id 0], [.int .i64 0, .int .i64 0, .nils]], m.rw⟩ (by simp [at_lt, hid])
  cases hn : numF (c :: r) with
  | mk o u =>
  cases o with
  | none => rw [hn] at he; simp at he
  | some k =>
  rw [hn] at he e2
  simp only [Option.map_some, Prod.mk.injEq, Option.some.injEq] at he
  obtain ⟨rfl, rfl⟩ := he
  simp [set_lt, hid] at e2
  simp [Tryd.f58, evOps_cons, wantA_some, argsTm, ann_keep_58, ann_recov_58, ann_reg_58, reg58, at_lt, set_lt, hid, e1, e2, leave_setb, n88, n40, n80, n66, n68]

set_option maxHeartbeats 2000000 in
theorem ev_power {id : Nat} {all : List UInt8 → PR} (ha : ∀ s, (all s).2 <:+ s) (hall : AllOk id all) (s t : List UInt8) (f : Fun) (m : Mem) (hs : Sm s) (he : pPower all s = (some f, t)) (hbx : m.bx[id]? = some [.str s]) :
    evCall C0 44 [.ptr id 0] m = some (.ret (.agg f.cells), ⟨m.bx.set id [.str t], m.rw⟩) := by
  have hid : id < m.bx.length := (List.getElem?_eq_some_iff.1 hbx).1
  have hg : m.bx[id] = [.str s] := (List.getElem?_eq_some_iff.1 hbx).2
  unfold pPower at he
  cases ho : pOperand all s with
  | mk o u =>
  cases o with
  | none => rw [ho] at he; cases he
  | some g =>
  rw [ho] at he
  simp only at he
  have hu : Sm u := hs.suffix (by have := pOperand_suffix ha s; rw [ho] at this; exact this)
  rw [evCall_body C0 (C0_ext _) (by rw [C0_P]; exact Tryd.func44) rfl (by rw [C0_ann]; rfl) (by decide) (by simp [Tryd.f44])]
  have e1 := ev_operand hall s u g ⟨m.bx ++ [[.int .i64 0, .int .i64 0, .nils]], m.rw⟩ hs ho (by simp [at_lt, hid, hg])
  have e2 := ev_is id 94 (by decide) u ⟨m.bx.set id [.str u] ++ [[.int .i64 0, .int .i64 0, .nils], g.cells], m.rw⟩ (by simp [at_lt, hid])
  simp [set_lt, hid] at e1 e2
  cases h94 : (isC 94 u).1 with
  | false =>
    simp only [h94, Bool.false_eq_true, if_false, Prod.mk.injEq, Option.some.injEq] at he
    obtain ⟨rfl, rfl⟩ := he
    simp [h94] at e2
    simp [Tryd.f44, evOps_cons, wantA_some, argsTm, ann_keep_44, ann_recov_44, ann_reg_44, reg44, ann_draw_44, draw44, ann_dok_44, dok44, evDraw_cons, drawEnd, chkNeed, kindS, isEff, at_lt, set_lt, hid, e1, e2, leave_setb]
  | true =>
    simp only [h94, if_true] at he
    simp [h94] at e2
    have hu2 : Sm (isC 94 u).2 := hu.suffix (isC_suffix _ _)
    have e3 := ev_number id (isC 94 u).2 hu2.1 (numF_19 hu2) ⟨m.bx.set id [.str (isC 94 u).2] ++ [[.int .i64 0, .int .i64 0, .nils], g.cells], m.rw⟩ (by simp [at_lt, hid])
    cases hn : numF (isC 94 u).2 with
    | mk o v =>
    cases o with
    | none => rw [hn] at he; simp at he
    | some k =>
    rw [hn] at he e3
    simp only [Option.map_some, Prod.mk.injEq, Option.some.injEq] at he
    obtain ⟨rfl, rfl⟩ := he
    simp [set_lt, hid] at e3
    simp [Tryd.f44, evOps_cons, wantA_some, argsTm, ann_keep_44, ann_recov_44, ann_reg_44, reg44, ann_draw_44, draw44, ann_dok_44, dok44, evDraw_cons, drawEnd, chkNeed, kindS, isEff, at_lt, set_lt, hid, e1, e2, e3, leave_setb]

set_option maxHeartbeats 2000000 in
theorem ev_all (id : Nat) : ∀ n, AllOk id (pAll n) := by
  intro n
  induction n with
  | zero => intro s f t m hs he; rw [pAll] at he; cases he
  | succ n ih =>
  intro s f t m hs he hbx
  have hid : id < m.bx.length := (List.getElem?_eq_some_iff.1 hbx).1
  have hg : m.bx[id] = [.str s] := (List.getElem?_eq_some_iff.1 hbx).2
  rw [pAll] at he
  cases ho : pPower (pAll n) s with
  | mk o u =>
  cases o with
  | none => rw [ho] at he; cases he
  | some g =>
  rw [ho] at he
  simp only at he
  have hu : Sm u := hs.suffix (by have := pPower_suffix (pAll_suffix n) s; rw [ho] at this; exact this)
  rw [evCall_body C0 (C0_ext _) (by rw [C0_P]; exact Tryd.func31) rfl (by rw [C0_ann]; rfl) (by decide) (by simp [Tryd.f31])]
  have e1 := ev_power (pAll_suffix n) ih s u g ⟨m.bx ++ [[.int .i64 0, .int .i64 0, .nils]], m.rw⟩ hs ho (by simp [at_lt, hid, hg])
  have e2 := ev_is id 42 (by decide) u ⟨m.bx.set id [.str u] ++ [[.int .i64 0, .int .i64 0, .nils], g.cells], m.rw⟩ (by simp [at_lt, hid])
  simp [set_lt, hid] at e1 e2
  have hu2 : Sm (isC 42 u).2 := hu.suffix (isC_suffix _ _)
  cases h42 : (isC 42 u).1 with
  | true =>
    simp only [h42, if_true, pSecond] at he
    simp [h42] at e2
    cases hp : pPower (pAll n) (isC 42 u).2 with
    | mk o v =>
    cases o with
    | none => rw [hp] at he; cases he
    | some h =>
    rw [hp] at he
    simp only [Prod.mk.injEq, Option.some.injEq] at he
    obtain ⟨rfl, rfl⟩ := he
    have e3 := ev_power (pAll_suffix n) ih _ _ _ ⟨m.bx.set id [.str (isC 42 u).2] ++ [[.int .i64 0, .int .i64 0, .nils], g.cells], m.rw⟩ hu2 hp (by simp [at_lt, hid])
    simp [set_lt, hid] at e3
    simp [Tryd.f31, evOps_cons, wantA_some, argsTm, ann_keep_31, ann_recov_31, ann_reg_31, reg31, ann_draw_31, draw31, ann_dok_31, dok31, evDraw_cons, drawEnd, chkNeed, kindS, isEff, at_lt, set_lt, hid, e1, e2, e3, leave_setb]
  | false =>
    simp only [h42, Bool.false_eq_true, if_false] at he
    simp [h42] at e2
    have e3 := ev_is id 43 (by decide) (isC 42 u).2 ⟨m.bx.set id [.str (isC 42 u).2] ++ [[.int .i64 0, .int .i64 0, .nils], g.cells], m.rw⟩ (by simp [at_lt, hid])
    have hu3 : Sm (isC 43 (isC 42 u).2).2 := hu2.suffix (isC_suffix _ _)
    simp [set_lt, hid] at e3
    cases h43 : (isC 43 (isC 42 u).2).1 with
    | false =>
      simp only [h43, Bool.false_eq_true, if_false, Prod.mk.injEq, Option.some.injEq] at he
      obtain ⟨rfl, rfl⟩ := he
      simp [h43] at e3
      simp [Tryd.f31, evOps_cons, wantA_some, argsTm, ann_keep_31, ann_recov_31, ann_reg_31, reg31, ann_draw_31, draw31, ann_dok_31, dok31, evDraw_cons, drawEnd, chkNeed, kindS, isEff, at_lt, set_lt, hid, e1, e2, e3, leave_setb]
    | true =>
      simp only [h43, if_true, pSecond] at he
      simp [h43] at e3
      cases hp : pPower (pAll n) (isC 43 (isC 42 u).2).2 with
      | mk o v =>
      cases o with
      | none => rw [hp] at he; cases he
      | some h =>
      rw [hp] at he
      simp only [Prod.mk.injEq, Option.some.injEq] at he
      obtain ⟨rfl, rfl⟩ := he
      have e4 := ev_power (pAll_suffix n) ih _ _ _ ⟨m.bx.set id [.str (isC 43 (isC 42 u).2).2] ++ [[.int .i64 0, .int .i64 0, .nils], g.cells], m.rw⟩ hu3 hp (by simp [at_lt, hid])
      simp [set_lt, hid] at e4
      simp [Tryd.f31, evOps_cons, wantA_some, argsTm, ann_keep_31, ann_recov_31, ann_reg_31, reg31, ann_draw_31, draw31, ann_dok_31, dok31, evDraw_cons, drawEnd, chkNeed, kindS, isEff, at_lt, set_lt, hid, e1, e2, e3, e4, leave_setb]
end AE
end Go.Proofs.YtdifmcdgnbnhiaaDoor
