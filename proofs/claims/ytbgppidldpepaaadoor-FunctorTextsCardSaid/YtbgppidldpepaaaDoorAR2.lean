/- The reference's reader. -/
import Derived.Test.YtbgppidldpepaaaDoorAR1
set_option linter.unusedVariables false
set_option linter.unusedSimpArgs false
namespace Go.Proofs.YtbgppidldpepaaaDoor
namespace AE
open Go

abbrev RS := List (List UInt8) × Bool
/-- A reader as it lies. -/
def rd (s : RS) : List A := [.isl false s.1.length (strs s.1), .bool s.2]
@[simp] theorem rd_mk (l : List (List UInt8)) (b : Bool) : rd (l, b) = [.isl false l.length (strs l), .bool b] := rfl
/-- Tokens are not empty; one that begins with a digit is digits. -/
def TkOk (l : List (List UInt8)) : Prop := ∀ t, t ∈ l → ∃ c r, t = c :: r ∧ t.length ≤ 1000000 ∧ (isDig c = true → ∀ b, b ∈ t → isDig b = true)
theorem TkOk.suffix {l q : List (List UInt8)} (h : TkOk l) (k : q <:+ l) : TkOk q := fun t ht => h t (k.subset ht)
theorem TkOk.tail {l : List (List UInt8)} (h : TkOk l) : TkOk l.tail := h.suffix (List.tail_suffix l)

def takeR (t : List UInt8) (s : RS) : RS := if s.1.head? = some t then (s.1.tail, s.2) else (s.1, true)
def digR (s : RS) : List UInt8 × RS := match s.1 with
  | (c :: r) :: q => if isDig c then (c :: r, (q, s.2)) else ([48], (s.1, true))
  | _ => ([48], (s.1, true))
theorem takeR_suffix (t : List UInt8) (s : RS) : (takeR t s).1 <:+ s.1 := by
  unfold takeR
  split
  · exact List.tail_suffix _
  · exact List.suffix_refl _
theorem digR_suffix (s : RS) : (digR s).2.1 <:+ s.1 := by
  unfold digR
  split
  · rename_i c r q he
    split
    · rw [he]; exact List.suffix_cons _ _
    · exact List.suffix_refl _
  · exact List.suffix_refl _

theorem ev_Sees (id : Nat) (t : List UInt8) (s : RS) (m : Mem) (hl : s.1.length ≤ 1000000) (hbx : m.bx[id]? = some (rd s)) : evCall C0 36 [.ptr id 0, .str t] m = some (.ret (.bool (decide (s.1.head? = some t))), m) := by
  have hid : id < m.bx.length := (List.getElem?_eq_some_iff.1 hbx).1
  have hg : m.bx[id] = rd s := (List.getElem?_eq_some_iff.1 hbx).2
  obtain ⟨l, b⟩ := s
  rw [evCall_body C0 (C0_ext _ (by decide)) (by rw [C0_P]; exact Tryd.func36) rfl (by rw [C0_ann]; rfl) (by decide) (by simp [Tryd.f36])]
  cases l with
  | nil => simp [Tryd.f36, evOps_cons, wantA_some, argsTm, ann_keep_36, ann_recov_36, ann_reg_36, reg36, hid, hg]
  | cons u q =>
    have hp : (0 : Int) < q.length + 1 := by omega
    simp [Tryd.f36, evOps_cons, wantA_some, argsTm, ann_keep_36, ann_recov_36, ann_reg_36, reg36, hid, hg, hp]
set_option maxHeartbeats 1000000 in
theorem ev_Take (id : Nat) (t : List UInt8) (s : RS) (m : Mem) (hl : s.1.length ≤ 1000000) (hbx : m.bx[id]? = some (rd s)) : evCall C0 37 [.ptr id 0, .str t] m = some (.ret (.tup []), ⟨m.bx.set id (rd (takeR t s)), m.rw⟩) := by
  have hid : id < m.bx.length := (List.getElem?_eq_some_iff.1 hbx).1
  have hg : m.bx[id] = rd s := (List.getElem?_eq_some_iff.1 hbx).2
  have hse := ev_Sees id t s m hl hbx
  obtain ⟨l, b⟩ := s
  rw [evCall_body C0 (C0_ext _ (by decide)) (by rw [C0_P]; exact Tryd.func37) rfl (by rw [C0_ann]; rfl) (by decide) (by simp [Tryd.f37])]
  unfold takeR
  cases l with
  | nil =>
    simp at hse
    simp [Tryd.f37, evOps_cons, wantA_some, argsTm, ann_keep_37, ann_recov_37, ann_reg_37, reg37, hid, hg, hse, setCells, leave_set0]
  | cons u q =>
    have hp : (1 : Int) ≤ q.length + 1 := by omega
    by_cases hu : u = t
    · subst hu
      simp at hse
      simp [Tryd.f37, evOps_cons, wantA_some, argsTm, ann_keep_37, ann_recov_37, ann_reg_37, reg37, hid, hg, hse, hp, setCells, leave_set0]
    · simp [hu] at hse
      simp [Tryd.f37, evOps_cons, wantA_some, argsTm, ann_keep_37, ann_recov_37, ann_reg_37, reg37, hid, hg, hse, hu, setCells, leave_set0]
set_option maxHeartbeats 1000000 in
theorem ev_RDigits (id : Nat) (s : RS) (m : Mem) (hl : s.1.length ≤ 1000000) (hk : TkOk s.1) (hbx : m.bx[id]? = some (rd s)) : evCall C0 52 [.ptr id 0] m = some (.ret (.str (digR s).1), ⟨m.bx.set id (rd (digR s).2), m.rw⟩) := by
  have hid : id < m.bx.length := (List.getElem?_eq_some_iff.1 hbx).1
  have hg : m.bx[id] = rd s := (List.getElem?_eq_some_iff.1 hbx).2
  obtain ⟨l, b⟩ := s
  rw [evCall_body C0 (C0_ext _ (by decide)) (by rw [C0_P]; exact Tryd.func52) rfl (by rw [C0_ann]; rfl) (by decide) (by simp [Tryd.f52])]
  unfold digR
  cases l with
  | nil => simp [Tryd.f52, evOps_cons, wantA_some, argsTm, ann_keep_52, ann_recov_52, ann_reg_52, reg52, hid, hg, setCells, leave_set0]
  | cons u q =>
    obtain ⟨c, r, rfl, _, _⟩ := hk u (by simp)
    have hp : (1 : Int) ≤ q.length + 1 := by omega
    have hp0 : (0 : Int) < q.length + 1 := by omega
    have hp1 : (0 : Int) < r.length + 1 := by omega
    have hp2 : ¬ (q.length : Int) + 1 = 0 := by omega
    have hdg := ev_Digit c
    cases hd : isDig c with
    | false =>
      simp only [hd] at hdg
      simp [Tryd.f52, evOps_cons, wantA_some, argsTm, ann_keep_52, ann_recov_52, ann_reg_52, reg52, hid, hg, hp, hp0, hp1, hp2, hdg, hd, setCells, leave_set0]
    | true =>
      simp only [hd] at hdg
      simp [Tryd.f52, evOps_cons, wantA_some, argsTm, ann_keep_52, ann_recov_52, ann_reg_52, reg52, hid, hg, hp, hp0, hp1, hp2, hdg, hd, setCells, leave_set0]
theorem ev_Of (k n : Int) (fl : Bool) (l : List Fun) (m : Mem) : evCall C0 38 [.int .i64 k, .int .i64 n, .isl fl l.length (Fun.cellsL l)] m = some (.ret (.agg (Fun.mk k n l).cells), m) := by
  rw [evCall_body C0 (C0_ext _ (by decide)) (by rw [C0_P]; exact Tryd.func38) rfl (by rw [C0_ann]; rfl) (by decide) (by simp [Tryd.f38])]
  simp [Tryd.f38, evOps_cons, wantA_some, argsTm, ann_keep_38, ann_recov_38, ann_reg_38, reg38]
theorem ev_Of0 (k n : Int) (m : Mem) : evCall C0 38 [.int .i64 k, .int .i64 n, .nils] m = some (.ret (.agg (Fun.mk k n []).cells), m) := by
  rw [evCall_body C0 (C0_ext _ (by decide)) (by rw [C0_P]; exact Tryd.func38) rfl (by rw [C0_ann]; rfl) (by decide) (by simp [Tryd.f38])]
  simp [Tryd.f38, evOps_cons, wantA_some, argsTm, ann_keep_38, ann_recov_38, ann_reg_38, reg38]
end AE
end Go.Proofs.YtbgppidldpepaaaDoor
