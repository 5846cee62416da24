/- The parser's small functions. -/
import Derived.Test.YtbgppidldpepaaaDoorAF4
set_option linter.unusedVariables false
set_option linter.unusedSimpArgs false
namespace Go.Proofs.YtbgppidldpepaaaDoor
namespace AE
open Go

/-- A string without the bytes c at its begin. -/
def dropC (c : UInt8) (s : List UInt8) : List UInt8 := s.dropWhile fun b => decide (b = c)
@[simp] theorem dropC_nil (c : UInt8) : dropC c [] = [] := rfl
theorem dropC_same (c : UInt8) (r : List UInt8) : dropC c (c :: r) = dropC c r := by simp [dropC]
theorem dropC_ne {c b : UInt8} (h : ¬ b = c) (r : List UInt8) : dropC c (b :: r) = b :: r := by simp [dropC, h]
theorem dropC_length (c : UInt8) : ∀ s, (dropC c s).length ≤ s.length
  | [] => Nat.le_refl _
  | b :: r => by
    by_cases h : b = c
    · subst h; rw [dropC_same]; have := dropC_length b r; simp; omega
    · rw [dropC_ne h]; exact Nat.le_refl _
theorem byte_eq (b c : UInt8) : ((b.toNat : Int) = c.toNat) ↔ b = c := by
  constructor
  · intro h; exact UInt8.toNat_inj.1 (by omega)
  · rintro rfl; rfl
theorem byte_dec (b c : UInt8) : decide ((b.toNat : Int) = c.toNat) = decide (b = c) := by
  simp only [byte_eq]

theorem ev_trimByte (c : UInt8) (s : List UInt8) (m : Mem) : evCall C0 46 [.str s, .int .u8 c.toNat] m = some (.ret (.str (dropC c s)), m) := by
  rw [evCall_body C0 (C0_ext _ (by decide)) (by rw [C0_P]; exact Tryd.func46) rfl (by rw [C0_ann]; rfl) (by decide) (by simp [Tryd.f46])]
  simp [Tryd.f46, evOps_cons, wantA_some, argsTm, ann_keep_46, ann_recov_46, ann_reg_46, reg46, ann_loop_46, loop46, headId, endRound_L, endRound_S]
  refine loop_in (fun s : List UInt8 => ⟨[(0, .str s), (1, .int .u8 c.toNat)], m⟩) (fun s => some (.ret (.str (dropC c s)), m)) (fun s => s.length) (fun s => True) s ?_ ?_ ?_ ?_ ?_
  · simp
  · simp
  · trivial
  · intro x; simp [Tryd.f46, evOps_cons, wantA_some, argsTm, ann_keep_46, ann_recov_46, ann_reg_46, reg46, ann_loop_46, loop46, headId, endRound_L, endRound_S]
  · intro s hi hrec
    cases s with
    | nil => simp [round, Tryd.f46, evOps_cons, wantA_some, argsTm, ann_keep_46, ann_recov_46, ann_reg_46, reg46, ann_loop_46, loop46, headId, endRound_L, endRound_S]
    | cons b r =>
      by_cases h : b = c
      · subst h
        have hp : (0 : Int) < r.length + 1 := by omega
        have hp2 : (1 : Int) ≤ r.length + 1 := by omega
        simp [round, Tryd.f46, evOps_cons, wantA_some, argsTm, ann_keep_46, ann_recov_46, ann_reg_46, reg46, ann_loop_46, loop46, headId, endRound_L, endRound_S, hp, hp2, endRound_M0]
        refine hrec r _ _ ?_ ?_ ?_ ?_
        · simp
        · trivial
        · simp
        · rw [dropC_same]
      · have hp : (0 : Int) < r.length + 1 := by omega
        simp [round, Tryd.f46, evOps_cons, wantA_some, argsTm, ann_keep_46, ann_recov_46, ann_reg_46, reg46, ann_loop_46, loop46, headId, endRound_L, endRound_S, hp, byte_eq, h, dropC_ne h]

theorem ev_TrimLeft (c : UInt8) (hc : c.toNat < 128) (s : List UInt8) (m : Mem) : evCall C0 32 [.str s, .str [c]] m = some (.ret (.str (dropC c s)), m) := by
  rw [evCall_body C0 (C0_ext _ (by decide)) (by rw [C0_P]; exact Tryd.func32) rfl (by rw [C0_ann]; rfl) (by decide) (by simp [Tryd.f32])]
  have hc' : (c.toNat : Int) < 128 := by omega
  by_cases h : s = []
  · subst h; simp [Tryd.f32, evOps_cons, wantA_some, argsTm, ann_keep_32, ann_recov_32, ann_reg_32, reg32]
  · simp [Tryd.f32, evOps_cons, wantA_some, argsTm, ann_keep_32, ann_recov_32, ann_reg_32, reg32, h, hc', ev_trimByte]

def headN (s : List UInt8) : Int := match s with | [] => 0 | b :: _ => b.toNat
@[simp] theorem headN_nil : headN [] = 0 := rfl
@[simp] theorem headN_cons (b : UInt8) (r : List UInt8) : headN (b :: r) = b.toNat := rfl
theorem ev_next (id : Nat) (s : List UInt8) (m : Mem) (hbx : m.bx[id]? = some [.str s]) : evCall C0 20 [.ptr id 0] m = some (.ret (.int .u8 (headN (dropC 32 s))), ⟨m.bx.set id [.str (dropC 32 s)], m.rw⟩) := by
  have hid : id < m.bx.length := (List.getElem?_eq_some_iff.1 hbx).1
  have hg : m.bx[id] = [.str s] := (List.getElem?_eq_some_iff.1 hbx).2
  rw [evCall_body C0 (C0_ext _ (by decide)) (by rw [C0_P]; exact Tryd.func20) rfl (by rw [C0_ann]; rfl) (by decide) (by simp [Tryd.f20])]
  have he := ev_TrimLeft 32 (by decide) s
  cases h : dropC 32 s with
  | nil => simp [h] at he; simp [Tryd.f20, evOps_cons, wantA_some, argsTm, ann_keep_20, ann_recov_20, ann_reg_20, reg20, hid, at_lt, set_lt, hg, he, leave_set0]
  | cons b r =>
    simp [h] at he
    have hp : (0 : Int) < r.length + 1 := by omega
    simp [Tryd.f20, evOps_cons, wantA_some, argsTm, ann_keep_20, ann_recov_20, ann_reg_20, reg20, hid, at_lt, set_lt, hg, he, leave_set0]
/-- Is a byte next? -/
def isC (c : UInt8) (s : List UInt8) : Bool × List UInt8 := match dropC 32 s with
  | [] => (false, [])
  | b :: r => if b = c then (true, r) else (false, b :: r)
theorem ev_is (id : Nat) (c : UInt8) (h0 : c ≠ 0) (s : List UInt8) (m : Mem) (hbx : m.bx[id]? = some [.str s]) : evCall C0 31 [.ptr id 0, .int .u8 c.toNat] m = some (.ret (.bool (isC c s).1), ⟨m.bx.set id [.str (isC c s).2], m.rw⟩) := by
  have hid : id < m.bx.length := (List.getElem?_eq_some_iff.1 hbx).1
  have hg : m.bx[id] = [.str s] := (List.getElem?_eq_some_iff.1 hbx).2
  rw [evCall_body C0 (C0_ext _ (by decide)) (by rw [C0_P]; exact Tryd.func31) rfl (by rw [C0_ann]; rfl) (by decide) (by simp [Tryd.f31])]
  have he := ev_next id s m hbx
  unfold isC
  cases h : dropC 32 s with
  | nil =>
    have hc : ¬ (0 : Int) = c.toNat := by
      intro e
      apply h0
      exact UInt8.toNat_inj.1 (by simp; omega)
    simp [h] at he
    simp [Tryd.f31, evOps_cons, wantA_some, argsTm, ann_keep_31, ann_recov_31, ann_reg_31, reg31, hid, at_lt, set_lt, hg, he, leave_set0, hc]
  | cons b r =>
    simp [h] at he
    by_cases hc : b = c
    · subst hc
      have hp2 : (1 : Int) ≤ r.length + 1 := by omega
      simp [Tryd.f31, evOps_cons, wantA_some, argsTm, ann_keep_31, ann_recov_31, ann_reg_31, reg31, hid, at_lt, set_lt, hg, he, leave_set0, hp2]
    · simp [Tryd.f31, evOps_cons, wantA_some, argsTm, ann_keep_31, ann_recov_31, ann_reg_31, reg31, hid, at_lt, set_lt, hg, he, leave_set0, byte_eq, hc]
def wrongA : A := .ifc 43 (.agg [])
theorem ev_take (id : Nat) (c : UInt8) (h0 : c ≠ 0) (s : List UInt8) (m : Mem) (hbx : m.bx[id]? = some [.str s]) : evCall C0 56 [.ptr id 0, .int .u8 c.toNat] m = some (if (isC c s).1 then .ret (.tup []) else .pan wrongA, ⟨m.bx.set id [.str (isC c s).2], m.rw⟩) := by
  have hid : id < m.bx.length := (List.getElem?_eq_some_iff.1 hbx).1
  rw [evCall_body C0 (C0_ext _ (by decide)) (by rw [C0_P]; exact Tryd.func56) rfl (by rw [C0_ann]; rfl) (by decide) (by simp [Tryd.f56])]
  have he := ev_is id c h0 s m hbx
  cases h : (isC c s).1
  · simp [h] at he
    simp [Tryd.f56, evOps_cons, wantA_some, argsTm, ann_keep_56, ann_recov_56, ann_reg_56, reg56, hid, at_lt, set_lt, he, leave_set0, h, panA, wrongA]
  · simp [h] at he
    simp [Tryd.f56, evOps_cons, wantA_some, argsTm, ann_keep_56, ann_recov_56, ann_reg_56, reg56, hid, at_lt, set_lt, he, leave_set0, h]
end AE
end Go.Proofs.YtbgppidldpepaaaDoor
