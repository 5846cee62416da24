/- When a formula is valid, by the program: one case; evaluated. Printed by mkL3.py. -/
import Derived.Test.YtejfmdoejokcaaaGreatDoorGF
import Derived.Test.YtejfmdoejokcaaaGreatDoorGE
import Derived.Lay
import Derived.Stop.Joined
import Derived.Carry
import Derived.Test.YtejfmdoejokcaaaGreatDoorCards
import Derived.Test.YtejfmdoejokcaaaGreatDoorTie
import Derived.SevenTiedAt
set_option linter.unusedVariables false
set_option linter.unusedSimpArgs false
namespace Go.Proofs.YtejfmdoejokcaaaGreatDoor
namespace AE
open Go
set_option maxHeartbeats 16000000 in
theorem ev_valid_N (a : Fm) (hb : a.nodes ≤ 1000000000) (H : ∀ b, b ∈ a.args → VOk b) (top : Fun) (left deep : Int) (m : Mem) (id : Nat) (hs : shapedF top = true) (hl0 : -1000000 ≤ left) (hl1 : left ≤ 1000000) (hd0 : 0 ≤ deep) (hd1 : deep ≤ 1000000) (hbx : m.bx[id]? = some (top.cells ++ [.int .i64 left])) :
    evCall C0 68 [.ptr id 0, .nilp, .agg a.cells, .int .i64 deep] m = some (.ret (.bool (validA top none a left deep).1), ⟨m.bx.set id (top.cells ++ [.int .i64 (validA top none a left deep).2]), m.rw⟩) := by
  have hid : id < m.bx.length := (List.getElem?_eq_some_iff.1 hbx).1
  have hgm := (List.getElem?_eq_some_iff.1 hbx).2
  have hid4 : id < m.bx.length + 4 := by omega
  have hid1 : id < m.bx.length + 1 := by omega
  rw [evCall_body C0 (C0_ext _ (by decide)) (by rw [C0_P]; exact Tryz.func68) rfl (by rw [C0_ann]; rfl) (by rw [C0_ann]; rfl) (by decide) (by simp [Tryz.f68])]
  have hlen := a.length_args
  rw [validA_eq]
  have w1 : IntKind.i64.wrap (left - 1) = left - 1 := wrap_id _ (by omega)
  by_cases c1 : left - 1 < 0
  case pos => simp [Tryz.f68, a68, reg68, loop68, draw68, dok68, hgm, hid, hid1, hid4, at_lt, set_lt, w1, c1, leave_setb]
  by_cases c2 : 100 < deep
  case pos => simp [Tryz.f68, a68, reg68, loop68, draw68, dok68, hgm, hid, hid1, hid4, at_lt, set_lt, w1, c1, c2, leave_setb]
  by_cases c3 : a.op < 0
  case pos => simp [Tryz.f68, a68, reg68, loop68, draw68, dok68, hgm, hid, hid1, hid4, at_lt, set_lt, w1, c1, c2, c3, leave_setb]
  by_cases c4 : 13 < a.op
  case pos => simp [Tryz.f68, a68, reg68, loop68, draw68, dok68, hgm, hid, hid1, hid4, at_lt, set_lt, w1, c1, c2, c3, c4, leave_setb]
  have k0 : 0 ≤ a.op := by omega
  have k14 : a.op < 14 := by omega
  have har := rulesT_args k0 (by omega)
  have k1 : 1 ≤ 42 - (a.op.toNat * 3 + 2) := by omega
  have k2 : 1 ≤ 42 - (a.op.toNat * 3 + 1) := by omega
  have k3 : a.op.toNat * 3 + 3 ≤ 42 := by omega
  have k4 : 1 ≤ 40 - a.op.toNat * 3 := by omega
  have k5 : 1 ≤ 41 - a.op.toNat * 3 := by omega
  have wd : IntKind.i64.wrap (deep + 1) = deep + 1 := wrap_id _ (by omega)
  by_cases c5 : (a.args.length : Int) = arityA a.op
  case neg => simp [Tryz.f68, a68, reg68, loop68, draw68, dok68, hgm, hid, hid1, hid4, at_lt, set_lt, w1, c1, c2, c3, c4, c5, k0, k14, k1, k2, k3, k4, k5, har, leave_setb]
  have hno : ¬ (left - 1 < 0 ∨ 100 < deep ∨ a.op < 0 ∨ 13 < a.op ∨ ¬ (a.args.length : Int) = arityA a.op) := by
    rintro (h | h | h | h | h)
    · exact c1 h
    · exact c2 h
    · exact c3 h
    · exact c4 h
    · exact h c5
  rw [if_neg hno]
  have hGP : GP m.bx id top none .nilp := rfl
  by_cases c6 : a.op ≤ 2
  · by_cases c7 : a.num = 0 ∧ a.mun = 0
    case neg =>
      have hct : ctxA top none a.op a.num a.mun = none := by unfold ctxA; rw [if_pos c6, if_neg c7]
      rw [hct]
      by_cases c8 : a.num = 0
      · have c9 : ¬ a.mun = 0 := fun h => c7 ⟨c8, h⟩
        simp [Tryz.f68, a68, reg68, loop68, draw68, dok68, hgm, hid, hid1, hid4, at_lt, set_lt, w1, c1, c2, c3, c4, eq_true c5, k0, k14, k1, k2, k3, k4, k5, har, c6, c8, c9, leave_setb]
      · simp [Tryz.f68, a68, reg68, loop68, draw68, dok68, hgm, hid, hid1, hid4, at_lt, set_lt, w1, c1, c2, c3, c4, eq_true c5, k0, k14, k1, k2, k3, k4, k5, har, c6, c8, leave_setb]
    have hct : ctxA top none a.op a.num a.mun = some none := by unfold ctxA; rw [if_pos c6, if_pos c7]
    rw [hct]
    have c9 : ¬ a.op = 3 := by omega
    have hco := ev_ContainsAS (h := 112) (caps := [.ptr m.bx.length 0, .ptr (m.bx.length + 1) 0, .ptr (m.bx.length + 3) 0]) (M := m.bx) (L := [[.ptr id 0], [.nilp], a.cells, [.int .i64 deep]]) (id := id) (top := top) (R := m.rw) (ok := fun b q => validA top none b q (deep + 1)) a.args (by omega) hid (by simp) (by simp [hid4]) (fun q => 0 ≤ q ∧ q ≤ 1000000)
      (fun b hm q hq => ev_valid_in b (H b hm) top none .nilp q deep m.bx _ m.rw id 0 hs (fun g' hg' => by cases hg') (by omega) (by omega) hd0 (by omega) hid hGP rfl rfl rfl)
      (fun b hm q hq h => by have := validA_le top none b q (deep + 1); have := validA_pos top none b q (deep + 1) h; omega) (left - 1) (by omega)
    rw [goA_valid] at hco
    obtain ⟨c7a, c7b⟩ := c7
    simp [c7a, c7b] at hco
    simp [Tryz.f68, a68, reg68, loop68, draw68, dok68, hgm, hid, hid1, hid4, at_lt, set_lt, w1, c1, c2, c3, c4, eq_true c5, k0, k14, k1, k2, k3, k4, k5, har, c6, c7a, c7b, c9, hco, leave_setb]
  by_cases c9 : a.op = 3
  · by_cases c7 : a.num = 0 ∧ a.mun = 0
    case neg =>
      have hct : ctxA top none a.op a.num a.mun = none := by unfold ctxA; rw [if_neg c6, if_pos c9, if_neg (fun h => c7 ⟨h.1, h.2.1⟩)]
      rw [hct]
      by_cases c8 : a.num = 0
      · have c10 : ¬ a.mun = 0 := fun h => c7 ⟨c8, h⟩
        rw [c9] at har c5
        simp at har
        simp [Tryz.f68, a68, reg68, loop68, draw68, dok68, hgm, hid, hid1, hid4, at_lt, set_lt, w1, c1, c2, eq_true c5, har, c9, c8, c10, leave_setb]
      · rw [c9] at har c5
        simp at har
        simp [Tryz.f68, a68, reg68, loop68, draw68, dok68, hgm, hid, hid1, hid4, at_lt, set_lt, w1, c1, c2, eq_true c5, har, c9, c8, leave_setb]
    obtain ⟨c7a, c7b⟩ := c7
    have hct : ctxA top none a.op a.num a.mun = some (some top) := by unfold ctxA; rw [if_neg c6, if_pos c9, if_pos ⟨c7a, c7b, rfl⟩]
    rw [hct]
    obtain ⟨b, hb1⟩ := one_arg c5 (by omega) (by omega) (by omega)
    have he := (H b (by rw [hb1]; exact List.mem_cons_self)) top (some top) (.ptr id 0) (left - 1) (deep + 1) ⟨m.bx.set id (top.cells ++ [.int .i64 (left - 1)]) ++ [[.ptr id 0], [.nilp], a.cells, [.int .i64 deep]], m.rw⟩ id hs (fun g' hg' => by cases hg'; exact hs) (by omega) (by omega) (by omega) (by omega) (by rw [List.getElem?_append_left (by simpa using hid)]; simp [hid]) ⟨id, rfl, .inr ⟨rfl, rfl⟩⟩
    rw [c9] at har c5
    rw [hb1] at c5
    simp at har
    simp [set_lt, hid, hb1, Fm.cellsL, c9, c7a, c7b] at he
    simp only [hb1, validAL_one]
    simp [Tryz.f68, a68, reg68, loop68, draw68, dok68, hgm, hid, hid1, hid4, at_lt, set_lt, w1, wd, c1, c2, har, c9, c7a, c7b, hb1, Fm.cellsL, show arityA 3 = 1 from rfl, he, leave_setb]
  have c6' : ¬ a.op ≤ 2 := c6
  have hkn := rulesT_kind (k := a.op) (by omega) (by omega)
  have hct : ctxA top none a.op a.num a.mun = none := by unfold ctxA; rw [if_neg c6, if_neg c9]
  rw [hct]
  simp [Tryz.f68, a68, reg68, loop68, draw68, dok68, hgm, hid, hid1, hid4, at_lt, set_lt, w1, c1, c2, c3, c4, eq_true c5, k0, k14, k1, k2, k3, k4, k5, har, c6, c9, leave_setb]
set_option maxHeartbeats 16000000 in
theorem ev_valid_P (a : Fm) (hb : a.nodes ≤ 1000000000) (H : ∀ b, b ∈ a.args → VOk b) (top : Fun) (left deep : Int) (m : Mem) (id : Nat) (hs : shapedF top = true) (hl0 : -1000000 ≤ left) (hl1 : left ≤ 1000000) (hd0 : 0 ≤ deep) (hd1 : deep ≤ 1000000) (hbx : m.bx[id]? = some (top.cells ++ [.int .i64 left])) (g : Fun) (gid : Nat) (hgs : shapedF g = true) (hne : ¬ gid = id) (hgc : m.bx[gid]? = some g.cells) :
    evCall C0 68 [.ptr id 0, (.ptr gid 0), .agg a.cells, .int .i64 deep] m = some (.ret (.bool (validA top (some g) a left deep).1), ⟨m.bx.set id (top.cells ++ [.int .i64 (validA top (some g) a left deep).2]), m.rw⟩) := by
  have hid : id < m.bx.length := (List.getElem?_eq_some_iff.1 hbx).1
  have hgm := (List.getElem?_eq_some_iff.1 hbx).2
  have hid4 : id < m.bx.length + 4 := by omega
  have hid1 : id < m.bx.length + 1 := by omega
  have hgl : gid < m.bx.length := (List.getElem?_eq_some_iff.1 hgc).1
  have hgg := (List.getElem?_eq_some_iff.1 hgc).2
  have hne' : ¬ id = gid := fun e => hne e.symm
  have hgl4 : gid < m.bx.length + 4 := by omega
  rw [evCall_body C0 (C0_ext _ (by decide)) (by rw [C0_P]; exact Tryz.func68) rfl (by rw [C0_ann]; rfl) (by rw [C0_ann]; rfl) (by decide) (by simp [Tryz.f68])]
  have hlen := a.length_args
  rw [validA_eq]
  have w1 : IntKind.i64.wrap (left - 1) = left - 1 := wrap_id _ (by omega)
  by_cases c1 : left - 1 < 0
  case pos => simp [Tryz.f68, a68, reg68, loop68, draw68, dok68, hgm, hid, hid1, hid4, at_lt, set_lt, w1, c1, leave_setb, hgl, hgg, hne, hne', hgl4]
  by_cases c2 : 100 < deep
  case pos => simp [Tryz.f68, a68, reg68, loop68, draw68, dok68, hgm, hid, hid1, hid4, at_lt, set_lt, w1, c1, c2, leave_setb, hgl, hgg, hne, hne', hgl4]
  by_cases c3 : a.op < 0
  case pos => simp [Tryz.f68, a68, reg68, loop68, draw68, dok68, hgm, hid, hid1, hid4, at_lt, set_lt, w1, c1, c2, c3, leave_setb, hgl, hgg, hne, hne', hgl4]
  by_cases c4 : 13 < a.op
  case pos => simp [Tryz.f68, a68, reg68, loop68, draw68, dok68, hgm, hid, hid1, hid4, at_lt, set_lt, w1, c1, c2, c3, c4, leave_setb, hgl, hgg, hne, hne', hgl4]
  have k0 : 0 ≤ a.op := by omega
  have k14 : a.op < 14 := by omega
  have har := rulesT_args k0 (by omega)
  have k1 : 1 ≤ 42 - (a.op.toNat * 3 + 2) := by omega
  have k2 : 1 ≤ 42 - (a.op.toNat * 3 + 1) := by omega
  have k3 : a.op.toNat * 3 + 3 ≤ 42 := by omega
  have k4 : 1 ≤ 40 - a.op.toNat * 3 := by omega
  have k5 : 1 ≤ 41 - a.op.toNat * 3 := by omega
  have wd : IntKind.i64.wrap (deep + 1) = deep + 1 := wrap_id _ (by omega)
  by_cases c5 : (a.args.length : Int) = arityA a.op
  case neg => simp [Tryz.f68, a68, reg68, loop68, draw68, dok68, hgm, hid, hid1, hid4, at_lt, set_lt, w1, c1, c2, c3, c4, c5, k0, k14, k1, k2, k3, k4, k5, har, leave_setb, hgl, hgg, hne, hne', hgl4]
  have hno : ¬ (left - 1 < 0 ∨ 100 < deep ∨ a.op < 0 ∨ 13 < a.op ∨ ¬ (a.args.length : Int) = arityA a.op) := by
    rintro (h | h | h | h | h)
    · exact c1 h
    · exact c2 h
    · exact c3 h
    · exact c4 h
    · exact h c5
  rw [if_neg hno]
  have hGP : GP m.bx id top (some g) (.ptr gid 0) := ⟨gid, rfl, .inl ⟨hne, hgc⟩⟩
  by_cases c6 : a.op ≤ 2
  · by_cases c7 : a.num = 0 ∧ a.mun = 0
    case neg =>
      have hct : ctxA top (some g) a.op a.num a.mun = none := by unfold ctxA; rw [if_pos c6, if_neg c7]
      rw [hct]
      by_cases c8 : a.num = 0
      · have c9 : ¬ a.mun = 0 := fun h => c7 ⟨c8, h⟩
        simp [Tryz.f68, a68, reg68, loop68, draw68, dok68, hgm, hid, hid1, hid4, at_lt, set_lt, w1, c1, c2, c3, c4, eq_true c5, k0, k14, k1, k2, k3, k4, k5, har, c6, c8, c9, leave_setb, hgl, hgg, hne, hne', hgl4]
      · simp [Tryz.f68, a68, reg68, loop68, draw68, dok68, hgm, hid, hid1, hid4, at_lt, set_lt, w1, c1, c2, c3, c4, eq_true c5, k0, k14, k1, k2, k3, k4, k5, har, c6, c8, leave_setb, hgl, hgg, hne, hne', hgl4]
    have hct : ctxA top (some g) a.op a.num a.mun = some (some g) := by unfold ctxA; rw [if_pos c6, if_pos c7]
    rw [hct]
    have c9 : ¬ a.op = 3 := by omega
    have hco := ev_ContainsAS (h := 112) (caps := [.ptr m.bx.length 0, .ptr (m.bx.length + 1) 0, .ptr (m.bx.length + 3) 0]) (M := m.bx) (L := [[.ptr id 0], [(.ptr gid 0)], a.cells, [.int .i64 deep]]) (id := id) (top := top) (R := m.rw) (ok := fun b q => validA top (some g) b q (deep + 1)) a.args (by omega) hid (by simp) (by simp [hid4, hgl, hgg, hne, hne', hgl4]) (fun q => 0 ≤ q ∧ q ≤ 1000000)
      (fun b hm q hq => ev_valid_in b (H b hm) top (some g) (.ptr gid 0) q deep m.bx _ m.rw id 0 hs (fun g' hg' => by cases hg'; exact hgs) (by omega) (by omega) hd0 (by omega) hid hGP rfl rfl rfl)
      (fun b hm q hq h => by have := validA_le top (some g) b q (deep + 1); have := validA_pos top (some g) b q (deep + 1) h; omega) (left - 1) (by omega)
    rw [goA_valid] at hco
    obtain ⟨c7a, c7b⟩ := c7
    simp [c7a, c7b] at hco
    simp [Tryz.f68, a68, reg68, loop68, draw68, dok68, hgm, hid, hid1, hid4, at_lt, set_lt, w1, c1, c2, c3, c4, eq_true c5, k0, k14, k1, k2, k3, k4, k5, har, c6, c7a, c7b, c9, hco, leave_setb, hgl, hgg, hne, hne', hgl4]
  by_cases c9 : a.op = 3
  · by_cases c7 : a.num = 0 ∧ a.mun = 0
    case neg =>
      have hct : ctxA top (some g) a.op a.num a.mun = none := by unfold ctxA; rw [if_neg c6, if_pos c9, if_neg (fun h => c7 ⟨h.1, h.2.1⟩)]
      rw [hct]
      by_cases c8 : a.num = 0
      · have c10 : ¬ a.mun = 0 := fun h => c7 ⟨c8, h⟩
        rw [c9] at har c5
        simp at har
        simp [Tryz.f68, a68, reg68, loop68, draw68, dok68, hgm, hid, hid1, hid4, at_lt, set_lt, w1, c1, c2, eq_true c5, har, c9, c8, c10, leave_setb, hgl, hgg, hne, hne', hgl4]
      · rw [c9] at har c5
        simp at har
        simp [Tryz.f68, a68, reg68, loop68, draw68, dok68, hgm, hid, hid1, hid4, at_lt, set_lt, w1, c1, c2, eq_true c5, har, c9, c8, leave_setb, hgl, hgg, hne, hne', hgl4]
    obtain ⟨c7a, c7b⟩ := c7
    have hct : ctxA top (some g) a.op a.num a.mun = none := by unfold ctxA; rw [if_neg c6, if_pos c9, if_neg (fun h => by simpa using h.2.2)]
    rw [hct]
    rw [c9] at har c5
    simp at har
    simp [Tryz.f68, a68, reg68, loop68, draw68, dok68, hgm, hid, hid1, hid4, at_lt, set_lt, w1, c1, c2, eq_true c5, har, c9, c7a, c7b, leave_setb, hgl, hgg, hne, hne', hgl4]
  have c6' : ¬ a.op ≤ 2 := c6
  have hkn := rulesT_kind (k := a.op) (by omega) (by omega)
  have hnm := ev_PNums g a
  simp at hnm
  by_cases c10 : g.kind = kindO a.op
  case neg =>
    have hct : ctxA top (some g) a.op a.num a.mun = none := by unfold ctxA; rw [if_neg c6, if_neg c9]; simp only; rw [if_neg (fun h => c10 h.1)]
    rw [hct]
    simp [Tryz.f68, a68, reg68, loop68, draw68, dok68, hgm, hid, hid1, hid4, at_lt, set_lt, w1, c1, c2, c3, c4, eq_true c5, k0, k14, k1, k2, k3, k4, k5, har, c6, c9, hkn, c10, leave_setb, hgl, hgg, hne, hne', hgl4]
  cases c11 : numsA g a.op a.num a.mun
  · have hct : ctxA top (some g) a.op a.num a.mun = none := by unfold ctxA; rw [if_neg c6, if_neg c9]; simp only; rw [if_neg (fun h => by rw [c11] at h; exact absurd h.2 (by decide))]
    rw [hct]
    simp [c11] at hnm
    simp [Tryz.f68, a68, reg68, loop68, draw68, dok68, hgm, hid, hid1, hid4, at_lt, set_lt, w1, c1, c2, c3, c4, eq_true c5, k0, k14, k1, k2, k3, k4, k5, har, c6, c9, hkn, eq_true c10, hnm, leave_setb, hgl, hgg, hne, hne', hgl4]
  simp [c11] at hnm
  by_cases c12 : a.op = 4
  · have hct : ctxA top (some g) a.op a.num a.mun = some none := by unfold ctxA; rw [if_neg c6, if_neg c9]; simp only; rw [if_pos ⟨c10, c11⟩, if_pos c12]
    rw [hct]
    obtain ⟨b, hb1⟩ := one_arg c5 (by omega) (by omega) (by omega)
    have he := (H b (by rw [hb1]; exact List.mem_cons_self)) top none .nilp (left - 1) (deep + 1) ⟨m.bx.set id (top.cells ++ [.int .i64 (left - 1)]) ++ [[.ptr id 0], [(.ptr gid 0)], a.cells, [.int .i64 deep]], m.rw⟩ id hs (fun g' hg' => by cases hg') (by omega) (by omega) (by omega) (by omega) (by rw [List.getElem?_append_left (by simpa using hid)]; simp [hid]) rfl
    rw [c12] at har c5 hkn c10 hnm
    rw [hb1] at c5 hnm
    simp at har hkn
    simp [Fm.cellsL] at hnm
    simp [set_lt, hid, hb1, Fm.cellsL, c12] at he
    simp only [hb1, validAL_one]
    simp [Tryz.f68, a68, reg68, loop68, draw68, dok68, hgm, hid, hid1, hid4, at_lt, set_lt, w1, wd, c1, c2, har, c12, hkn, eq_true c10, hnm, hb1, Fm.cellsL, show arityA 4 = 1 from rfl, he, leave_setb, hgl, hgg, hne, hne', hgl4]
  have hct : ctxA top (some g) a.op a.num a.mun = some (some (partA g a.op)) := by unfold ctxA; rw [if_neg c6, if_neg c9]; simp only; rw [if_pos ⟨c10, c11⟩, if_neg c12]
  rw [hct]
  by_cases c13 : a.op = 5
  · have hb1 : a.args = [] := by
      rw [c13, show arityA 5 = 0 from rfl] at c5
      exact List.eq_nil_of_length_eq_zero (by omega)
    rw [c13] at har hkn c10 hnm
    rw [hb1] at hnm
    simp at har hkn
    simp at hnm
    simp only [hb1, validAL]
    simp [Tryz.f68, a68, reg68, loop68, draw68, dok68, hgm, hid, hid1, hid4, at_lt, set_lt, w1, wd, c1, c2, har, c13, hkn, eq_true c10, hnm, hb1, show arityA 5 = 0 from rfl, leave_setb, hgl, hgg, hne, hne', hgl4]
    rw [evCode_loop]
    simp [round, Tryz.f68, a68, reg68, loop68, draw68, dok68, leave_setb]
  obtain ⟨b, hb1⟩ := one_arg c5 (by omega) c13 (by omega)
  have hlt := part_lt hgs (by omega) (by omega) c10.symm
  have hp := ev_PPart g a.op hlt
  have he := (H b (by rw [hb1]; exact List.mem_cons_self)) top (some (partA g a.op)) (.ptr (m.bx.length + 5) 0) (left - 1) (deep + 1) ⟨m.bx.set id (top.cells ++ [.int .i64 (left - 1)]) ++ [[.ptr id 0], [(.ptr gid 0)], a.cells, [.int .i64 deep], b.cells, (partA g a.op).cells], m.rw⟩ id hs (fun g' hg' => by cases hg'; exact part_shaped hgs hlt) (by omega) (by omega) (by omega) (by omega) (by rw [List.getElem?_append_left (by simpa using hid)]; simp [hid]) ⟨m.bx.length + 5, rfl, .inl ⟨by omega, by simp⟩⟩
  have hlr : (a.args.length : Int) = 1 := by rw [hb1]; rfl
  rw [hb1] at hnm
  simp [Fm.cellsL] at hnm
  simp [set_lt, hid, hb1, Fm.cellsL] at he
  simp at hp
  simp only [hb1, validAL_one]
  rw [hb1] at c5
  simp at c5
  simp [Tryz.f68, a68, reg68, loop68, draw68, dok68, hgm, hid, hid1, hid4, at_lt, set_lt, w1, wd, c1, c2, c3, c4, ← c5, k0, k14, k1, k2, k3, k4, k5, har, c6, c9, c12, c13, hkn, eq_true c10, hnm, hb1, Fm.cellsL, hgl, hgg, hne, hne', hgl4]
  rw [evCode_loop]
  cases hv : (validA top (some (partA g a.op)) b (left - 1) (deep + 1)).1
  · simp [hv] at he
    simp [round, Tryz.f68, a68, reg68, loop68, draw68, dok68, hgm, hid, hid1, hid4, at_lt, set_lt, wd, hp, he, hv, leave_setb, hgl, hgg, hne, hne', hgl4]
  · simp [hv] at he
    simp [round, Tryz.f68, a68, reg68, loop68, draw68, dok68, hgm, hid, hid1, hid4, at_lt, set_lt, wd, hp, he, hv, endRound_S, hgl, hgg, hne, hne', hgl4]
    rw [evCode_loop]
    simp [round, Tryz.f68, a68, reg68, loop68, draw68, dok68, leave_setb]
set_option maxHeartbeats 16000000 in
theorem ev_valid_T (a : Fm) (hb : a.nodes ≤ 1000000000) (H : ∀ b, b ∈ a.args → VOk b) (top : Fun) (left deep : Int) (m : Mem) (id : Nat) (hs : shapedF top = true) (hl0 : -1000000 ≤ left) (hl1 : left ≤ 1000000) (hd0 : 0 ≤ deep) (hd1 : deep ≤ 1000000) (hbx : m.bx[id]? = some (top.cells ++ [.int .i64 left])) :
    evCall C0 68 [.ptr id 0, (.ptr id 0), .agg a.cells, .int .i64 deep] m = some (.ret (.bool (validA top (some top) a left deep).1), ⟨m.bx.set id (top.cells ++ [.int .i64 (validA top (some top) a left deep).2]), m.rw⟩) := by
  have hid : id < m.bx.length := (List.getElem?_eq_some_iff.1 hbx).1
  have hgm := (List.getElem?_eq_some_iff.1 hbx).2
  have hid4 : id < m.bx.length + 4 := by omega
  have hid1 : id < m.bx.length + 1 := by omega
  rw [evCall_body C0 (C0_ext _ (by decide)) (by rw [C0_P]; exact Tryz.func68) rfl (by rw [C0_ann]; rfl) (by rw [C0_ann]; rfl) (by decide) (by simp [Tryz.f68])]
  have hlen := a.length_args
  rw [validA_eq]
  have w1 : IntKind.i64.wrap (left - 1) = left - 1 := wrap_id _ (by omega)
  by_cases c1 : left - 1 < 0
  case pos => simp [Tryz.f68, a68, reg68, loop68, draw68, dok68, hgm, hid, hid1, hid4, at_lt, set_lt, w1, c1, leave_setb]
  by_cases c2 : 100 < deep
  case pos => simp [Tryz.f68, a68, reg68, loop68, draw68, dok68, hgm, hid, hid1, hid4, at_lt, set_lt, w1, c1, c2, leave_setb]
  by_cases c3 : a.op < 0
  case pos => simp [Tryz.f68, a68, reg68, loop68, draw68, dok68, hgm, hid, hid1, hid4, at_lt, set_lt, w1, c1, c2, c3, leave_setb]
  by_cases c4 : 13 < a.op
  case pos => simp [Tryz.f68, a68, reg68, loop68, draw68, dok68, hgm, hid, hid1, hid4, at_lt, set_lt, w1, c1, c2, c3, c4, leave_setb]
  have k0 : 0 ≤ a.op := by omega
  have k14 : a.op < 14 := by omega
  have har := rulesT_args k0 (by omega)
  have k1 : 1 ≤ 42 - (a.op.toNat * 3 + 2) := by omega
  have k2 : 1 ≤ 42 - (a.op.toNat * 3 + 1) := by omega
  have k3 : a.op.toNat * 3 + 3 ≤ 42 := by omega
  have k4 : 1 ≤ 40 - a.op.toNat * 3 := by omega
  have k5 : 1 ≤ 41 - a.op.toNat * 3 := by omega
  have wd : IntKind.i64.wrap (deep + 1) = deep + 1 := wrap_id _ (by omega)
  by_cases c5 : (a.args.length : Int) = arityA a.op
  case neg => simp [Tryz.f68, a68, reg68, loop68, draw68, dok68, hgm, hid, hid1, hid4, at_lt, set_lt, w1, c1, c2, c3, c4, c5, k0, k14, k1, k2, k3, k4, k5, har, leave_setb]
  have hno : ¬ (left - 1 < 0 ∨ 100 < deep ∨ a.op < 0 ∨ 13 < a.op ∨ ¬ (a.args.length : Int) = arityA a.op) := by
    rintro (h | h | h | h | h)
    · exact c1 h
    · exact c2 h
    · exact c3 h
    · exact c4 h
    · exact h c5
  rw [if_neg hno]
  have hGP : GP m.bx id top (some top) (.ptr id 0) := ⟨id, rfl, .inr ⟨rfl, rfl⟩⟩
  by_cases c6 : a.op ≤ 2
  · by_cases c7 : a.num = 0 ∧ a.mun = 0
    case neg =>
      have hct : ctxA top (some top) a.op a.num a.mun = none := by unfold ctxA; rw [if_pos c6, if_neg c7]
      rw [hct]
      by_cases c8 : a.num = 0
      · have c9 : ¬ a.mun = 0 := fun h => c7 ⟨c8, h⟩
        simp [Tryz.f68, a68, reg68, loop68, draw68, dok68, hgm, hid, hid1, hid4, at_lt, set_lt, w1, c1, c2, c3, c4, eq_true c5, k0, k14, k1, k2, k3, k4, k5, har, c6, c8, c9, leave_setb]
      · simp [Tryz.f68, a68, reg68, loop68, draw68, dok68, hgm, hid, hid1, hid4, at_lt, set_lt, w1, c1, c2, c3, c4, eq_true c5, k0, k14, k1, k2, k3, k4, k5, har, c6, c8, leave_setb]
    have hct : ctxA top (some top) a.op a.num a.mun = some (some top) := by unfold ctxA; rw [if_pos c6, if_pos c7]
    rw [hct]
    have c9 : ¬ a.op = 3 := by omega
    have hco := ev_ContainsAS (h := 112) (caps := [.ptr m.bx.length 0, .ptr (m.bx.length + 1) 0, .ptr (m.bx.length + 3) 0]) (M := m.bx) (L := [[.ptr id 0], [(.ptr id 0)], a.cells, [.int .i64 deep]]) (id := id) (top := top) (R := m.rw) (ok := fun b q => validA top (some top) b q (deep + 1)) a.args (by omega) hid (by simp) (by simp [hid4]) (fun q => 0 ≤ q ∧ q ≤ 1000000)
      (fun b hm q hq => ev_valid_in b (H b hm) top (some top) (.ptr id 0) q deep m.bx _ m.rw id 0 hs (fun g' hg' => by cases hg'; exact hs) (by omega) (by omega) hd0 (by omega) hid hGP rfl rfl rfl)
      (fun b hm q hq h => by have := validA_le top (some top) b q (deep + 1); have := validA_pos top (some top) b q (deep + 1) h; omega) (left - 1) (by omega)
    rw [goA_valid] at hco
    obtain ⟨c7a, c7b⟩ := c7
    simp [c7a, c7b] at hco
    simp [Tryz.f68, a68, reg68, loop68, draw68, dok68, hgm, hid, hid1, hid4, at_lt, set_lt, w1, c1, c2, c3, c4, eq_true c5, k0, k14, k1, k2, k3, k4, k5, har, c6, c7a, c7b, c9, hco, leave_setb]
  by_cases c9 : a.op = 3
  · by_cases c7 : a.num = 0 ∧ a.mun = 0
    case neg =>
      have hct : ctxA top (some top) a.op a.num a.mun = none := by unfold ctxA; rw [if_neg c6, if_pos c9, if_neg (fun h => c7 ⟨h.1, h.2.1⟩)]
      rw [hct]
      by_cases c8 : a.num = 0
      · have c10 : ¬ a.mun = 0 := fun h => c7 ⟨c8, h⟩
        rw [c9] at har c5
        simp at har
        simp [Tryz.f68, a68, reg68, loop68, draw68, dok68, hgm, hid, hid1, hid4, at_lt, set_lt, w1, c1, c2, eq_true c5, har, c9, c8, c10, leave_setb]
      · rw [c9] at har c5
        simp at har
        simp [Tryz.f68, a68, reg68, loop68, draw68, dok68, hgm, hid, hid1, hid4, at_lt, set_lt, w1, c1, c2, eq_true c5, har, c9, c8, leave_setb]
    obtain ⟨c7a, c7b⟩ := c7
    have hct : ctxA top (some top) a.op a.num a.mun = none := by unfold ctxA; rw [if_neg c6, if_pos c9, if_neg (fun h => by simpa using h.2.2)]
    rw [hct]
    rw [c9] at har c5
    simp at har
    simp [Tryz.f68, a68, reg68, loop68, draw68, dok68, hgm, hid, hid1, hid4, at_lt, set_lt, w1, c1, c2, eq_true c5, har, c9, c7a, c7b, leave_setb]
  have c6' : ¬ a.op ≤ 2 := c6
  have hkn := rulesT_kind (k := a.op) (by omega) (by omega)
  have hnm := ev_PNums top a
  simp at hnm
  by_cases c10 : top.kind = kindO a.op
  case neg =>
    have hct : ctxA top (some top) a.op a.num a.mun = none := by unfold ctxA; rw [if_neg c6, if_neg c9]; simp only; rw [if_neg (fun h => c10 h.1)]
    rw [hct]
    simp [Tryz.f68, a68, reg68, loop68, draw68, dok68, hgm, hid, hid1, hid4, at_lt, set_lt, w1, c1, c2, c3, c4, eq_true c5, k0, k14, k1, k2, k3, k4, k5, har, c6, c9, hkn, c10, leave_setb]
  cases c11 : numsA top a.op a.num a.mun
  · have hct : ctxA top (some top) a.op a.num a.mun = none := by unfold ctxA; rw [if_neg c6, if_neg c9]; simp only; rw [if_neg (fun h => by rw [c11] at h; exact absurd h.2 (by decide))]
    rw [hct]
    simp [c11] at hnm
    simp [Tryz.f68, a68, reg68, loop68, draw68, dok68, hgm, hid, hid1, hid4, at_lt, set_lt, w1, c1, c2, c3, c4, eq_true c5, k0, k14, k1, k2, k3, k4, k5, har, c6, c9, hkn, eq_true c10, hnm, leave_setb]
  simp [c11] at hnm
  by_cases c12 : a.op = 4
  · have hct : ctxA top (some top) a.op a.num a.mun = some none := by unfold ctxA; rw [if_neg c6, if_neg c9]; simp only; rw [if_pos ⟨c10, c11⟩, if_pos c12]
    rw [hct]
    obtain ⟨b, hb1⟩ := one_arg c5 (by omega) (by omega) (by omega)
    have he := (H b (by rw [hb1]; exact List.mem_cons_self)) top none .nilp (left - 1) (deep + 1) ⟨m.bx.set id (top.cells ++ [.int .i64 (left - 1)]) ++ [[.ptr id 0], [(.ptr id 0)], a.cells, [.int .i64 deep]], m.rw⟩ id hs (fun g' hg' => by cases hg') (by omega) (by omega) (by omega) (by omega) (by rw [List.getElem?_append_left (by simpa using hid)]; simp [hid]) rfl
    rw [c12] at har c5 hkn c10 hnm
    rw [hb1] at c5 hnm
    simp at har hkn
    simp [Fm.cellsL] at hnm
    simp [set_lt, hid, hb1, Fm.cellsL, c12] at he
    simp only [hb1, validAL_one]
    simp [Tryz.f68, a68, reg68, loop68, draw68, dok68, hgm, hid, hid1, hid4, at_lt, set_lt, w1, wd, c1, c2, har, c12, hkn, eq_true c10, hnm, hb1, Fm.cellsL, show arityA 4 = 1 from rfl, he, leave_setb]
  have hct : ctxA top (some top) a.op a.num a.mun = some (some (partA top a.op)) := by unfold ctxA; rw [if_neg c6, if_neg c9]; simp only; rw [if_pos ⟨c10, c11⟩, if_neg c12]
  rw [hct]
  by_cases c13 : a.op = 5
  · have hb1 : a.args = [] := by
      rw [c13, show arityA 5 = 0 from rfl] at c5
      exact List.eq_nil_of_length_eq_zero (by omega)
    rw [c13] at har hkn c10 hnm
    rw [hb1] at hnm
    simp at har hkn
    simp at hnm
    simp only [hb1, validAL]
    simp [Tryz.f68, a68, reg68, loop68, draw68, dok68, hgm, hid, hid1, hid4, at_lt, set_lt, w1, wd, c1, c2, har, c13, hkn, eq_true c10, hnm, hb1, show arityA 5 = 0 from rfl, leave_setb]
    rw [evCode_loop]
    simp [round, Tryz.f68, a68, reg68, loop68, draw68, dok68, leave_setb]
  obtain ⟨b, hb1⟩ := one_arg c5 (by omega) c13 (by omega)
  have hlt := part_lt hs (by omega) (by omega) c10.symm
  have hp := ev_PPart top a.op hlt
  have he := (H b (by rw [hb1]; exact List.mem_cons_self)) top (some (partA top a.op)) (.ptr (m.bx.length + 5) 0) (left - 1) (deep + 1) ⟨m.bx.set id (top.cells ++ [.int .i64 (left - 1)]) ++ [[.ptr id 0], [(.ptr id 0)], a.cells, [.int .i64 deep], b.cells, (partA top a.op).cells], m.rw⟩ id hs (fun g' hg' => by cases hg'; exact part_shaped hs hlt) (by omega) (by omega) (by omega) (by omega) (by rw [List.getElem?_append_left (by simpa using hid)]; simp [hid]) ⟨m.bx.length + 5, rfl, .inl ⟨by omega, by simp⟩⟩
  have hlr : (a.args.length : Int) = 1 := by rw [hb1]; rfl
  rw [hb1] at hnm
  simp [Fm.cellsL] at hnm
  simp [set_lt, hid, hb1, Fm.cellsL] at he
  simp at hp
  simp only [hb1, validAL_one]
  rw [hb1] at c5
  simp at c5
  simp [Tryz.f68, a68, reg68, loop68, draw68, dok68, hgm, hid, hid1, hid4, at_lt, set_lt, w1, wd, c1, c2, c3, c4, ← c5, k0, k14, k1, k2, k3, k4, k5, har, c6, c9, c12, c13, hkn, eq_true c10, hnm, hb1, Fm.cellsL]
  rw [evCode_loop]
  cases hv : (validA top (some (partA top a.op)) b (left - 1) (deep + 1)).1
  · simp [hv] at he
    simp [round, Tryz.f68, a68, reg68, loop68, draw68, dok68, hgm, hid, hid1, hid4, at_lt, set_lt, wd, hp, he, hv, leave_setb]
  · simp [hv] at he
    simp [round, Tryz.f68, a68, reg68, loop68, draw68, dok68, hgm, hid, hid1, hid4, at_lt, set_lt, wd, hp, he, hv, endRound_S]
    rw [evCode_loop]
    simp [round, Tryz.f68, a68, reg68, loop68, draw68, dok68, leave_setb]
theorem ev_VOk (N : Nat) : ∀ (a : Fm), a.nodes ≤ N → a.nodes ≤ 1000000000 → VOk a := by
  induction N with
  | zero => intro a hN; have := a.nodes_pos; omega
  | succ N ih =>
  intro a hN hb
  have H : ∀ b, b ∈ a.args → VOk b := fun b hm => ih b (by have := Fm.nodes_arg hm; omega) (by have := Fm.nodes_arg hm; omega)
  intro top g pg left deep m id hs hgs h0 h1 h2 h3 hbx hG
  cases g with
  | none =>
    rw [show pg = A.nilp from hG]
    exact ev_valid_N a hb H top left deep m id hs h0 h1 h2 h3 hbx
  | some g =>
    obtain ⟨gid, rfl, h4⟩ := hG
    rcases h4 with ⟨h4, h5⟩ | ⟨rfl, rfl⟩
    · exact ev_valid_P a hb H top left deep m id hs h0 h1 h2 h3 hbx g gid (hgs g rfl) h4 h5
    · exact ev_valid_T a hb H g left deep m gid hs h0 h1 h2 h3 hbx
theorem ev_ValidA (f : Fun) (a : Fm) (hf : shapedF f = true) (hb : a.nodes ≤ 1000000000) (m : Mem) : evCall C0 36 [.agg f.cells, .agg a.cells] m = some (.ret (.bool (isFm f a)), m) := by
  rw [evCall_body C0 (C0_ext _ (by decide)) (by rw [C0_P]; exact Tryz.func36) rfl (by rw [C0_ann]; rfl) (by rw [C0_ann]; rfl) (by decide) (by simp [Tryz.f36])]
  have he := ev_VOk a.nodes a (Nat.le_refl _) hb f none .nilp 2000 1 ⟨m.bx ++ [f.cells, a.cells, f.cells ++ [.int .i64 2000]], m.rw⟩ (m.bx.length + 2) hf (fun g' hg' => by cases hg') (by omega) (by omega) (by omega) (by omega) (by simp) rfl
  rw [valid_isFm] at he
  simp at he
  simp [Tryz.f36, a36, reg36, he]
theorem ev_CheckA (f : Fun) (a : Fm) (hfn : f.nodes ≤ 1000000000) (hb : a.nodes ≤ 1000000000) (m : Mem) : evCall C0 12 [.agg f.cells, .agg a.cells] m = some (.ret (.int .i64 (if okF f then (if isFm f a then 0 else 70) else 10)), m) := by
  rw [evCall_body C0 (C0_ext _ (by decide)) (by rw [C0_P]; exact Tryz.func12) rfl (by rw [C0_ann]; rfl) (by rw [C0_ann]; rfl) (by decide) (by simp [Tryz.f12])]
  have h1 := ev_Valid f hfn
  simp at h1
  cases c1 : okF f
  · simp [Tryz.f12, a12, reg12, h1, c1]
  have h2 := ev_ValidA f a (((okF_iff f).1 c1).2.2) hb
  simp at h2
  cases c2 : isFm f a <;> simp [Tryz.f12, a12, reg12, h1, h2, c1, c2]
theorem ev_faultA (f : Fun) (a : Fm) (hfn : f.nodes ≤ 1000000000) (hb : a.nodes ≤ 1000000000) (m : Mem) : evCall C0 13 [.agg f.cells, .agg a.cells] m = some (.ret (.int .i64 (if okF f then (if isFm f a then 0 else 70) else 10)), m) := by
  rw [evCall_body C0 (C0_ext _ (by decide)) (by rw [C0_P]; exact Tryz.func13) rfl (by rw [C0_ann]; rfl) (by rw [C0_ann]; rfl) (by decide) (by simp [Tryz.f13])]
  have h1 := ev_Is f (by omega)
  rw [show (decide (0 < leftF f 21) && decide (f.depth ≤ 8) && shapedF f) = isF f from rfl, isF_okF] at h1
  simp at h1
  cases c1 : okF f
  · simp [Tryz.f13, a13, reg13, h1, c1]
  have h2 := ev_IsA f a (((okF_iff f).1 c1).2.2) hb
  simp at h2
  cases c2 : isFm f a <;> simp [Tryz.f13, a13, reg13, h1, h2, c1, c2]
theorem sameA_refl (a : Fm) : sameA a a = true := (sameA_iff a a).2 rfl
set_option maxHeartbeats 4000000 in
theorem ev_LogicForms (f : Fun) (a b : Fm) (m : Mem) : evCall C0 3 [.agg f.cells, .agg a.cells, .agg b.cells] m = some (.ret (.bool true), m) := by
  rw [evCall_body C0 (C0_ext _ (by decide)) (by rw [C0_P]; exact Tryz.func3) rfl (by rw [C0_ann]; rfl) (by rw [C0_ann]; rfl) (by decide) (by simp [Tryz.f3])]
  have h1 := fun m => ev_Few f 100 m (by omega) (by omega)
  have h2 := fun m => ev_FewA a 4000 m (by omega) (by omega)
  have h3 := fun m => ev_FewA b 4000 m (by omega) (by omega)
  simp at h1 h2 h3
  by_cases c1 : 0 < leftF f 101
  case neg => simp [Tryz.f3, a3, reg3, draw3, dok3, h1, c1, ev_awake]
  by_cases c2 : 0 < leftA a 4001
  case neg => simp [Tryz.f3, a3, reg3, draw3, dok3, h1, c1, h2, c2, ev_awake]
  by_cases c3 : 0 < leftA b 4001
  case neg => simp [Tryz.f3, a3, reg3, draw3, dok3, h1, c1, h2, c2, h3, c3, ev_awake]
  have n1 : f.nodes ≤ 1000000000 := by rw [leftF_nodes f 101 (by omega)] at c1; omega
  have n2 : a.nodes ≤ 1000000000 := by rw [leftA_nodes a 4001 (by omega)] at c2; omega
  have n3 : b.nodes ≤ 1000000000 := by rw [leftA_nodes b 4001 (by omega)] at c3; omega
  have e1 := ev_SizeA a.nodes a (Nat.le_refl _) n2
  have e2 := ev_RSizeA a.nodes a (Nat.le_refl _) n2
  have e3 := ev_CheckA f a n1 n2
  have e4 := ev_faultA f a n1 n2
  have e5 := ev_SameA a.nodes a b (Nat.le_refl _) n2
  have e6 := ev_RSameA a.nodes a b (Nat.le_refl _) n2
  have e7 := ev_CopyA a.nodes a (Nat.le_refl _) n2
  have e8 := ev_SameA a.nodes a a (Nat.le_refl _) n2
  rw [sameA_refl] at e8
  generalize (if okF f then (if isFm f a then (0 : Int) else 70) else 10) = k at e3 e4
  simp at e1 e2 e3 e4 e5 e6 e7 e8
  simp [Tryz.f3, a3, reg3, draw3, dok3, h1, c1, h2, c2, h3, c3, e1, e2, e3, e4, e5, e6, e7, e8, ev_awake]
end AE
end Go.Proofs.YtejfmdoejokcaaaGreatDoor
/- Trees of values that came in. -/
set_option linter.unusedVariables false
set_option linter.unusedSimpArgs false
namespace Go.Proofs.YtejfmdoejokcaaaGreatDoor
namespace AE
open Go Go.RowKit
set_option maxRecDepth 1000000 in
theorem cVal : Tryz.prog.cellsOf 93 = 3 := by kernel_rfl
set_option maxRecDepth 1000000 in
theorem cVals : Tryz.prog.cellsOf 46 = 1 := by kernel_rfl
set_option maxRecDepth 1000000 in
theorem cInts : Tryz.prog.cellsOf 50 = 1 := by kernel_rfl
theorem Val.flat : ∀ l : List Val, l.flatMap Val.cells = Val.cellsL l
  | [] => by simp
  | f :: r => by rw [List.flatMap_cons, Val.flat r, Val.cellsL]
set_option maxRecDepth 100000 in
theorem open_val {H : Type} {enc : TypeId × Value → H} {W : World} : ∀ (N fuel : Nat), fuel ≤ N → ∀ (cs : List Value) (x : DataW H × List MemPlace), DataW.trod enc Tryz.prog W 0 (fun _ => true) true fuel 93 cs = some x → ∃ f : Val, VRs W (g0 W) f.cells cs := by
  intro N
  induction N with
  | zero =>
    intro fuel hfu cs x h
    obtain rfl : fuel = 0 := by omega
    simp [DataW.trod] at h
  | succ N ih =>
    intro fuel hfu cs x h
    obtain ⟨xs, n, hn, rfl, hlen, hxl, hf⟩ := DataW.trod_struct Tryz.underlying93 h
    rw [cVal] at hlen
    have hxl3 : xs.length = 3 := hxl
    clear hxl
    obtain ⟨a0, a1, a2, rfl⟩ : ∃ a0 a1 a2, cs = [a0, a1, a2] := by
      match cs, hlen with
      | [a0, a1, a2], _ => exact ⟨a0, a1, a2, rfl⟩
    obtain ⟨x0, x1, x2, rfl⟩ : ∃ x0 x1 x2, xs = [x0, x1, x2] := by
      match xs, hxl3 with
      | [a0, a1, a2], _ => exact ⟨a0, a1, a2, rfl⟩
    have h0 := hf 0 _ rfl
    have h1 := hf 1 _ rfl
    have h2 := hf 2 _ rfl
    simp [cInt, cVals, cInts] at h0 h1 h2
    obtain ⟨k, e0, _, _⟩ := DataW.trod_int Tryz.underlying3 h0
    simp at e0
    subst e0
    obtain ⟨l, v, e1, hv⟩ := open_slice (by decide) Tryz.underlying46 cVal Val.cells Val.cells_length (fun n' hn' ds y hy => ih n' (by omega) ds y hy) h1
    obtain ⟨ks, v2, e2, hv2⟩ := open_ks h2
    simp at e1 e2
    subst e1 e2
    rw [Val.flat] at hv
    refine ⟨.mk k l ks, ?_⟩
    rw [Val.cells_eq]
    exact .mk_cons VR.mkInt (.mk_cons hv (.mk_cons hv2 VRs.mk_nil))
end AE
end Go.Proofs.YtejfmdoejokcaaaGreatDoor
/- Trees of formulas that came in. -/
set_option linter.unusedVariables false
set_option linter.unusedSimpArgs false
namespace Go.Proofs.YtejfmdoejokcaaaGreatDoor
namespace AE
open Go Go.RowKit
set_option maxRecDepth 1000000 in
theorem cFm : Tryz.prog.cellsOf 27 = 4 := by kernel_rfl
set_option maxRecDepth 1000000 in
theorem cFms : Tryz.prog.cellsOf 25 = 1 := by kernel_rfl
theorem Fm.flat : ∀ l : List Fm, l.flatMap Fm.cells = Fm.cellsL l
  | [] => by simp
  | f :: r => by rw [List.flatMap_cons, Fm.flat r, Fm.cellsL]
set_option maxRecDepth 100000 in
theorem open_fm {H : Type} {enc : TypeId × Value → H} {W : World} : ∀ (N fuel : Nat), fuel ≤ N → ∀ (cs : List Value) (x : DataW H × List MemPlace), DataW.trod enc Tryz.prog W 0 (fun _ => true) true fuel 27 cs = some x → ∃ f : Fm, VRs W (g0 W) f.cells cs := by
  intro N
  induction N with
  | zero =>
    intro fuel hfu cs x h
    obtain rfl : fuel = 0 := by omega
    simp [DataW.trod] at h
  | succ N ih =>
    intro fuel hfu cs x h
    obtain ⟨xs, n, hn, rfl, hlen, hxl, hf⟩ := DataW.trod_struct Tryz.underlying27 h
    rw [cFm] at hlen
    have hxl3 : xs.length = 4 := hxl
    clear hxl
    obtain ⟨a0, a1, a2, a3, rfl⟩ : ∃ a0 a1 a2 a3, cs = [a0, a1, a2, a3] := by
      match cs, hlen with
      | [a0, a1, a2, a3], _ => exact ⟨a0, a1, a2, a3, rfl⟩
    obtain ⟨x0, x1, x2, x3, rfl⟩ : ∃ x0 x1 x2 x3, xs = [x0, x1, x2, x3] := by
      match xs, hxl3 with
      | [a0, a1, a2, a3], _ => exact ⟨a0, a1, a2, a3, rfl⟩
    have h0 := hf 0 _ rfl
    have h1 := hf 1 _ rfl
    have h2 := hf 2 _ rfl
    have h3 := hf 3 _ rfl
    simp [cInt, cFms] at h0 h1 h2 h3
    obtain ⟨k, e0, _, _⟩ := DataW.trod_int Tryz.underlying3 h0
    obtain ⟨m, e1, _, _⟩ := DataW.trod_int Tryz.underlying3 h1
    obtain ⟨q, e2, _, _⟩ := DataW.trod_int Tryz.underlying3 h2
    simp at e0 e1 e2
    subst e0 e1 e2
    obtain ⟨l, v, e3, hv⟩ := open_slice (by decide) Tryz.underlying25 cFm Fm.cells Fm.cells_length (fun n' hn' ds y hy => ih n' (by omega) ds y hy) h3
    simp at e3
    subst e3
    rw [Fm.flat] at hv
    refine ⟨.mk k m q l, ?_⟩
    rw [Fm.cells_eq]
    exact .mk_cons VR.mkInt (.mk_cons VR.mkInt (.mk_cons VR.mkInt (.mk_cons hv VRs.mk_nil)))
end AE
end Go.Proofs.YtejfmdoejokcaaaGreatDoor
/- The row of the statement LogicForms. Printed by mkrow.py. -/
set_option linter.unusedVariables false
set_option linter.unusedSimpArgs false
namespace Go.Proofs.YtejfmdoejokcaaaGreatDoor
namespace AE
open Go Go.ChangeShapes Go.WideShapes Go.ChangeAt Go.RowKit
theorem own : ownKnob Tryz.prog.godebug = none := by kernel_rfl
theorem laidOut : laidOutB Tryz.prog = true := by kernel_rfl
theorem door_met_logicForms (os : Os) (args : Array Value) : laidMetH Tryz.prog Rows.logicFormsRow.laid ((World.laidAll Tryz.prog os Rows.logicFormsRow.laid).forCall (fun _ _ => 0) ⟨#[], args, []⟩).memory := by
  rw [MakeChecks.laidMetH_plain _ _ _ (by kernel_rfl)]
  exact laidMet_laidAll _ (by kernel_rfl) (by kernel_rfl)
set_option maxRecDepth 100000 in
theorem lifted_logicForms (os : Os) (started : os.Started) (H : Type) (enc : TypeId × Value → H) :
    ReturnsInHanded {} Tryz.checked os 3 .any (fun w args => (Rows.logicFormsSpec.pre enc Tryz.prog Tryz.f3 [] false w args ∧ laidMetH Tryz.prog Rows.logicFormsRow.laid w) ∧ sizedMet enc Tryz.prog Tryz.f3 (OpenSpec.ofChange Rows.logicFormsSpec) false w args)
      (Rows.logicFormsSpec.post enc Tryz.prog Tryz.f3 false true false false) := by
  refine returnsInHanded_of_change_and (C := Tryz.checked) (X := fun w _ => laidMetH Tryz.prog Rows.logicFormsRow.laid w) (fun _ _ _ hh h => h.of_heap hh) own started (by kernel_rfl) Tryz.func3
    (ChangeSpec.witness_shaped (enc := enc) (C := Tryz.checked) (os := os) (X := fun w _ => laidMetH Tryz.prog Rows.logicFormsRow.laid w) false (World.laidAll Tryz.prog os Rows.logicFormsRow.laid) #[.agg #[.int .i64 0, .int .i64 0, .slice none 0 0], .agg #[.int .i64 0, .int .i64 0, .int .i64 0, .slice none 0 0], .agg #[.int .i64 0, .int .i64 0, .int .i64 0, .slice none 0 0]] 8 rfl (World.shaped_of_ZipB (by kernel_rfl) (by kernel_rfl)) (by kernel_rfl) (by kernel_rfl) (by kernel_rfl) (door_met_logicForms os _)) ?_
  intro W base args ds gs before hval0 hW _ _ hL _
  have hW' := hW
  obtain ⟨p, q, hA0, hV, rfl, hfz, hnd⟩ := hW
  have hA : DataW.TrodAll enc Tryz.prog W 0 (fun _ => true) true Tryz.f3.params.toList args.toList ds p := hA0
  rw [Tryz.params3] at hA
  obtain ⟨v0, v1, v2, d0, d1, d2, p0, p1, p2, rfl, rfl, rfl, h0, h1, h2⟩ := trodAll_three hA
  obtain ⟨rfl, rfl⟩ := trodVars_none hV
  have k0 := h0
  have k1 := h1
  have k2 := h2
  have lt0 : ∀ x ∈ p0, x.block < W.heap.size := by obtain ⟨m, hm⟩ := k0; exact DataW.trod_lt m _ _ _ hm
  have lt1 : ∀ x ∈ p1, x.block < W.heap.size := by obtain ⟨m, hm⟩ := k1; exact DataW.trod_lt m _ _ _ hm
  have lt2 : ∀ x ∈ p2, x.block < W.heap.size := by obtain ⟨m, hm⟩ := k2; exact DataW.trod_lt m _ _ _ hm
  obtain ⟨n0, h0⟩ := h0
  obtain ⟨x0, hx0⟩ := open_fun n0 n0 (Nat.le_refl _) _ _ h0
  obtain ⟨n1, h1⟩ := h1
  obtain ⟨x1, hx1⟩ := open_fm n1 n1 (Nat.le_refl _) _ _ h1
  obtain ⟨n2, h2⟩ := h2
  obtain ⟨x2, hx2⟩ := open_fm n2 n2 (Nat.le_refl _) _ _ h2
  have hs := sr0 (P := Tryz.prog) (gl_of_laid (laid := Rows.logicFormsRow.laid) (by kernel_rfl) (by simp [Rows.logicFormsRow]) (by simp [Rows.logicFormsRow]) (by simp [Rows.logicFormsRow]) hL) (tb_of_laid (laid := Rows.logicFormsRow.laid) (by kernel_rfl) (by simp [Rows.logicFormsRow]) hL)
  have hcall := (sound ok0 3 [.agg x0.cells, .agg x1.cells, .agg x2.cells] ⟨[], []⟩ _ (ev_LogicForms x0 x1 x2 ⟨[], []⟩)).2 W (g0 W) W [v0, v1, v2] (by rw [C0_P, C0_gl]; exact hs) ?_
  · rw [C0_P] at hcall
    refine Calls.mono hcall fun e W' hR => ?_
    obtain ⟨g', hs', _, hres⟩ := hR
    cases e with
    | panicked ch => exact hres.elim
    | outgrown => exact hres.elim
    | returned v =>
      have hv : v = .bool true := hres
      subst hv
      have bel := hs'.below
      exact ⟨_, rfl, _, _, _, [], _, [], hW', trodAll_mk1 (shut_bool Tryz.underlying4 _), (trodAll_cons_mk (Below.trod laidOut (by kernel_rfl) (of_decide_eq_true (by kernel_rfl)) k0 bel lt0) (trodAll_cons_mk (Below.trod laidOut (by kernel_rfl) (of_decide_eq_true (by kernel_rfl)) k1 bel lt1) (trodAll_cons_mk (Below.trod laidOut (by kernel_rfl) (of_decide_eq_true (by kernel_rfl)) k2 bel lt2) trodAll_mk0))), rfl, bel.frame _, fun h => by cases h⟩
  · exact .mk_cons (agg_of hx0 (by simp)) (.mk_cons (agg_of hx1 (by simp)) (.mk_cons (agg_of hx2 (by simp)) VRs.mk_nil))
theorem said_logicForms : Rows.LogicFormsSaid :=
  OpenClaim.holds_of_wide 3 Tryz.f3 rfl rfl rfl rfl rfl rfl rfl ⟨rfl, rfl, rfl, rfl, rfl⟩ rfl rfl rfl rfl rfl (by kernel_rfl) Tryz.func3 (by kernel_rfl)
    (of_decide_eq_true (by kernel_rfl)) (by unfold Func.isWrapper; first | (rw [if_pos (by decide +kernel)]; kernel_rfl) | (rw [if_neg (by decide +kernel)]; exact ⟨rfl, rfl⟩))
    (fun os started H enc _ => lifted_logicForms os started H enc)
#print axioms said_logicForms
end AE
end Go.Proofs.YtejfmdoejokcaaaGreatDoor
/- The card of the statement LogicForms. Printed by mkrow.py. -/
set_option linter.unusedVariables false
set_option linter.unusedSimpArgs false
namespace Go.Proofs.YtejfmdoejokcaaaGreatDoor
namespace AE
open Go
theorem card_logicForms : Rows.LogicFormsCardSaid :=
  Claim7.holds_tied_plain_at .later [] [.data, .data, .data, .data, .sentinel, .sentinel, .data, .widerDeep, .pinned] true (true, "70642d1fde59d5f0e3c6a178434cd940d613635ed48435bc76478f3e7c8f55f8") true
    said_logicForms (fun _ h => by cases h) (by kernel_rfl) (fun _ h => by cases h) logicForms_row_tie rfl ⟨rfl, rfl⟩ (by kernel_rfl) rfl
    (fun f fn hf hfn => by
      obtain rfl : f = 3 := Option.some.inj ((show Tryz.prog.funcNamed "ectype/ectypelaw07.LogicForms" = some 3 by kernel_rfl).symm.trans hf) |>.symm
      obtain rfl : fn = Tryz.f3 := (Option.some.inj (Tryz.func3.symm.trans hfn)).symm
      exact ⟨by kernel_rfl, fun j t ht => by
        rw [Tryz.params3] at ht
        have h3 : t = 24 ∨ t = 27 := by
          rcases j with _ | _ | _ | j
          · exact .inl (by simpa using ht.symm)
          · exact .inr ((by simpa using ht.symm))
          · exact .inr ((by simpa using ht.symm))
          · simp at ht
        rcases h3 with rfl | rfl
        · exact (show Tryz.prog.wantsStandIn 24 = false by kernel_rfl)
        · exact (show Tryz.prog.wantsStandIn 27 = false by kernel_rfl)
      ⟩)
    (by kernel_rfl)
#print axioms card_logicForms
end AE
end Go.Proofs.YtejfmdoejokcaaaGreatDoor
