/- When a formula is valid, by the program: one case; evaluated. Printed by mkL3.py. -/
import Derived.Test.YtejfmdoejokcaaaGreatDoorGH
import Derived.Test.YtejfmdoejokcaaaGreatDoorGG
import Derived.Test.YtejfmdoejokcaaaGreatDoorGF
set_option linter.unusedVariables false
set_option linter.unusedSimpArgs false
namespace Go.Proofs.YtejfmdoejokcaaaGreatDoor
namespace AE
open Go
set_option maxHeartbeats 16000000 in
theorem ev_valid_P (a : Fm) (hb : a.nodes ≤ 1000000000) (H : ∀ b, b ∈ a.args → VOk b) (top : Fun) (left deep : Int) (m : Mem) (id : Nat) (hs : shapedF top = true) (hl0 : -1000000 ≤ left) (hl1 : left ≤ 1000000) (hd0 : 0 ≤ deep) (hd1 : deep ≤ 1000000) (hbx : m.bx[id]? = some (top.cells ++ [.int .i64 left])) (g : Fun) (gid : Nat) (hgs : shapedF g = true) (hne : ¬ gid = id) (hgc : m.bx[gid]? = some g.cells) :
    evCall C0 68 [.ptr id 0, (.ptr gid 0), .agg a.cells, .int .i64 deep] m = some (.ret (.bool (validA top (some g) a left deep).1), ⟨m.bx.set id (top.cells ++ [.int .i64 (validA top (some g) a left deep).2]), m.rw⟩) := by
  have hid : id < m.bx.length := (List.getElem?_eq_some_iff.1 hbx).1
  have hgm := (List.getElem?_eq_some_iff.1 hbx).2
  have hid4 : id < m.bx.length + 4 := by omega
  have hid1 : id < m.bx.length + 1 := by omega
  have hgl : gid < m.bx.length := (List.getElem?_eq_some_iff.1 hgc).1
  have hgg := (List.getElem?_eq_some_iff.1 hgc).2
  have hne' : ¬ id = gid := fun e => hne e.symm
  have hgl4 : gid < m.bx.length + 4 := by omega
  rw [evCall_body C0 (C0_ext _ (by decide)) (by rw [C0_P]; exact Tryz.func68) rfl (by rw [C0_ann]; rfl) (by rw [C0_ann]; rfl) (by decide) (by simp [Tryz.f68])]
  have hlen := a.length_args
  rw [validA_eq]
  have w1 : IntKind.i64.wrap (left - 1) = left - 1 := wrap_id _ (by omega)
  by_cases c1 : left - 1 < 0
  case pos => simp [Tryz.f68, a68, reg68, loop68, draw68, dok68, hgm, hid, hid1, hid4, at_lt, set_lt, w1, c1, leave_setb, hgl, hgg, hne, hne', hgl4]
  by_cases c2 : 100 < deep
  case pos => simp [Tryz.f68, a68, reg68, loop68, draw68, dok68, hgm, hid, hid1, hid4, at_lt, set_lt, w1, c1, c2, leave_setb, hgl, hgg, hne, hne', hgl4]
  by_cases c3 : a.op < 0
  case pos => simp [Tryz.f68, a68, reg68, loop68, draw68, dok68, hgm, hid, hid1, hid4, at_lt, set_lt, w1, c1, c2, c3, leave_setb, hgl, hgg, hne, hne', hgl4]
  by_cases c4 : 13 < a.op
  case pos => simp [Tryz.f68, a68, reg68, loop68, draw68, dok68, hgm, hid, hid1, hid4, at_lt, set_lt, w1, c1, c2, c3, c4, leave_setb, hgl, hgg, hne, hne', hgl4]
  have k0 : 0 ≤ a.op := by omega
  have k14 : a.op < 14 := by omega
  have har := rulesT_args k0 (by omega)
  have k1 : 1 ≤ 42 - (a.op.toNat * 3 + 2) := by omega
  have k2 : 1 ≤ 42 - (a.op.toNat * 3 + 1) := by omega
  have k3 : a.op.toNat * 3 + 3 ≤ 42 := by omega
  have k4 : 1 ≤ 40 - a.op.toNat * 3 := by omega
  have k5 : 1 ≤ 41 - a.op.toNat * 3 := by omega
  have wd : IntKind.i64.wrap (deep + 1) = deep + 1 := wrap_id _ (by omega)
  by_cases c5 : (a.args.length : Int) = arityA a.op
  case neg => simp [Tryz.f68, a68, reg68, loop68, draw68, dok68, hgm, hid, hid1, hid4, at_lt, set_lt, w1, c1, c2, c3, c4, c5, k0, k14, k1, k2, k3, k4, k5, har, leave_setb, hgl, hgg, hne, hne', hgl4]
  have hno : ¬ (left - 1 < 0 ∨ 100 < deep ∨ a.op < 0 ∨ 13 < a.op ∨ ¬ (a.args.length : Int) = arityA a.op) := by
    rintro (h | h | h | h | h)
    · exact c1 h
    · exact c2 h
    · exact c3 h
    · exact c4 h
    · exact h c5
  rw [if_neg hno]
  have hGP : GP m.bx id top (some g) (.ptr gid 0) := ⟨gid, rfl, .inl ⟨hne, hgc⟩⟩
  by_cases c6 : a.op ≤ 2
  · by_cases c7 : a.num = 0 ∧ a.mun = 0
    case neg =>
      have hct : ctxA top (some g) a.op a.num a.mun = none := by unfold ctxA; rw [if_pos c6, if_neg c7]
      rw [hct]
      by_cases c8 : a.num = 0
      · have c9 : ¬ a.mun = 0 := fun h => c7 ⟨c8, h⟩
        simp [Tryz.f68, a68, reg68, loop68, draw68, dok68, hgm, hid, hid1, hid4, at_lt, set_lt, w1, c1, c2, c3, c4, eq_true c5, k0, k14, k1, k2, k3, k4, k5, har, c6, c8, c9, leave_setb, hgl, hgg, hne, hne', hgl4]
      · simp [Tryz.f68, a68, reg68, loop68, draw68, dok68, hgm, hid, hid1, hid4, at_lt, set_lt, w1, c1, c2, c3, c4, eq_true c5, k0, k14, k1, k2, k3, k4, k5, har, c6, c8, leave_setb, hgl, hgg, hne, hne', hgl4]
    have hct : ctxA top (some g) a.op a.num a.mun = some (some g) := by unfold ctxA; rw [if_pos c6, if_pos c7]
    rw [hct]
    have c9 : ¬ a.op = 3 := by omega
    have hco := ev_ContainsAS (h := 112) (caps := [.ptr m.bx.length 0, .ptr (m.bx.length + 1) 0, .ptr (m.bx.length + 3) 0]) (M := m.bx) (L := [[.ptr id 0], [(.ptr gid 0)], a.cells, [.int .i64 deep]]) (id := id) (top := top) (R := m.rw) (ok := fun b q => validA top (some g) b q (deep + 1)) a.args (by omega) hid (by simp) (by simp [hid4, hgl, hgg, hne, hne', hgl4]) (fun q => 0 ≤ q ∧ q ≤ 1000000)
      (fun b hm q hq => ev_valid_in b (H b hm) top (some g) (.ptr gid 0) q deep m.bx _ m.rw id 0 hs (fun g' hg' => by cases hg'; exact hgs) (by omega) (by omega) hd0 (by omega) hid hGP rfl rfl rfl)
      (fun b hm q hq h => by have := validA_le top (some g) b q (deep + 1); have := validA_pos top (some g) b q (deep + 1) h; omega) (left - 1) (by omega)
    rw [goA_valid] at hco
    obtain ⟨c7a, c7b⟩ := c7
    simp [c7a, c7b] at hco
    simp [Tryz.f68, a68, reg68, loop68, draw68, dok68, hgm, hid, hid1, hid4, at_lt, set_lt, w1, c1, c2, c3, c4, eq_true c5, k0, k14, k1, k2, k3, k4, k5, har, c6, c7a, c7b, c9, hco, leave_setb, hgl, hgg, hne, hne', hgl4]
  by_cases c9 : a.op = 3
  · by_cases c7 : a.num = 0 ∧ a.mun = 0
    case neg =>
      have hct : ctxA top (some g) a.op a.num a.mun = none := by unfold ctxA; rw [if_neg c6, if_pos c9, if_neg (fun h => c7 ⟨h.1, h.2.1⟩)]
      rw [hct]
      by_cases c8 : a.num = 0
      · have c10 : ¬ a.mun = 0 := fun h => c7 ⟨c8, h⟩
        rw [c9] at har c5
        simp at har
        simp [Tryz.f68, a68, reg68, loop68, draw68, dok68, hgm, hid, hid1, hid4, at_lt, set_lt, w1, c1, c2, eq_true c5, har, c9, c8, c10, leave_setb, hgl, hgg, hne, hne', hgl4]
      · rw [c9] at har c5
        simp at har
        simp [Tryz.f68, a68, reg68, loop68, draw68, dok68, hgm, hid, hid1, hid4, at_lt, set_lt, w1, c1, c2, eq_true c5, har, c9, c8, leave_setb, hgl, hgg, hne, hne', hgl4]
    obtain ⟨c7a, c7b⟩ := c7
    have hct : ctxA top (some g) a.op a.num a.mun = none := by unfold ctxA; rw [if_neg c6, if_pos c9, if_neg (fun h => by simpa using h.2.2)]
    rw [hct]
    rw [c9] at har c5
    simp at har
    simp [Tryz.f68, a68, reg68, loop68, draw68, dok68, hgm, hid, hid1, hid4, at_lt, set_lt, w1, c1, c2, eq_true c5, har, c9, c7a, c7b, leave_setb, hgl, hgg, hne, hne', hgl4]
  have c6' : ¬ a.op ≤ 2 := c6
  have hkn := rulesT_kind (k := a.op) (by omega) (by omega)
  have hnm := ev_PNums g a
  simp at hnm
  by_cases c10 : g.kind = kindO a.op
  case neg =>
    have hct : ctxA top (some g) a.op a.num a.mun = none := by unfold ctxA; rw [if_neg c6, if_neg c9]; simp only; rw [if_neg (fun h => c10 h.1)]
    rw [hct]
    simp [Tryz.f68, a68, reg68, loop68, draw68, dok68, hgm, hid, hid1, hid4, at_lt, set_lt, w1, c1, c2, c3, c4, eq_true c5, k0, k14, k1, k2, k3, k4, k5, har, c6, c9, hkn, c10, leave_setb, hgl, hgg, hne, hne', hgl4]
  cases c11 : numsA g a.op a.num a.mun
  · have hct : ctxA top (some g) a.op a.num a.mun = none := by unfold ctxA; rw [if_neg c6, if_neg c9]; simp only; rw [if_neg (fun h => by rw [c11] at h; exact absurd h.2 (by decide))]
    rw [hct]
    simp [c11] at hnm
    simp [Tryz.f68, a68, reg68, loop68, draw68, dok68, hgm, hid, hid1, hid4, at_lt, set_lt, w1, c1, c2, c3, c4, eq_true c5, k0, k14, k1, k2, k3, k4, k5, har, c6, c9, hkn, eq_true c10, hnm, leave_setb, hgl, hgg, hne, hne', hgl4]
  simp [c11] at hnm
  by_cases c12 : a.op = 4
  · have hct : ctxA top (some g) a.op a.num a.mun = some none := by unfold ctxA; rw [if_neg c6, if_neg c9]; simp only; rw [if_pos ⟨c10, c11⟩, if_pos c12]
    rw [hct]
    obtain ⟨b, hb1⟩ := one_arg c5 (by omega) (by omega) (by omega)
    have he := (H b (by rw [hb1]; exact List.mem_cons_self)) top none .nilp (left - 1) (deep + 1) ⟨m.bx.set id (top.cells ++ [.int .i64 (left - 1)]) ++ [[.ptr id 0], [(.ptr gid 0)], a.cells, [.int .i64 deep]], m.rw⟩ id hs (fun g' hg' => by cases hg') (by omega) (by omega) (by omega) (by omega) (by rw [List.getElem?_append_left (by simpa using hid)]; simp [hid]) rfl
    rw [c12] at har c5 hkn c10 hnm
    rw [hb1] at c5 hnm
    simp at har hkn
    simp [Fm.cellsL] at hnm
    simp [set_lt, hid, hb1, Fm.cellsL, c12] at he
    simp only [hb1, validAL_one]
    simp [Tryz.f68, a68, reg68, loop68, draw68, dok68, hgm, hid, hid1, hid4, at_lt, set_lt, w1, wd, c1, c2, har, c12, hkn, eq_true c10, hnm, hb1, Fm.cellsL, show arityA 4 = 1 from rfl, he, leave_setb, hgl, hgg, hne, hne', hgl4]
  have hct : ctxA top (some g) a.op a.num a.mun = some (some (partA g a.op)) := by unfold ctxA; rw [if_neg c6, if_neg c9]; simp only; rw [if_pos ⟨c10, c11⟩, if_neg c12]
  rw [hct]
  by_cases c13 : a.op = 5
  · have hb1 : a.args = [] := by
      rw [c13, show arityA 5 = 0 from rfl] at c5
      exact List.eq_nil_of_length_eq_zero (by omega)
    rw [c13] at har hkn c10 hnm
    rw [hb1] at hnm
    simp at har hkn
    simp at hnm
    simp only [hb1, validAL]
    simp [Tryz.f68, a68, reg68, loop68, draw68, dok68, hgm, hid, hid1, hid4, at_lt, set_lt, w1, wd, c1, c2, har, c13, hkn, eq_true c10, hnm, hb1, show arityA 5 = 0 from rfl, leave_setb, hgl, hgg, hne, hne', hgl4]
    rw [evCode_loop]
    simp [round, Tryz.f68, a68, reg68, loop68, draw68, dok68, leave_setb]
  obtain ⟨b, hb1⟩ := one_arg c5 (by omega) c13 (by omega)
  have hlt := part_lt hgs (by omega) (by omega) c10.symm
  have hp := ev_PPart g a.op hlt
  have he := (H b (by rw [hb1]; exact List.mem_cons_self)) top (some (partA g a.op)) (.ptr (m.bx.length + 5) 0) (left - 1) (deep + 1) ⟨m.bx.set id (top.cells ++ [.int .i64 (left - 1)]) ++ [[.ptr id 0], [(.ptr gid 0)], a.cells, [.int .i64 deep], b.cells, (partA g a.op).cells], m.rw⟩ id hs (fun g' hg' => by cases hg'; exact part_shaped hgs hlt) (by omega) (by omega) (by omega) (by omega) (by rw [List.getElem?_append_left (by simpa using hid)]; simp [hid]) ⟨m.bx.length + 5, rfl, .inl ⟨by omega, by simp⟩⟩
  have hlr : (a.args.length : Int) = 1 := by rw [hb1]; rfl
  rw [hb1] at hnm
  simp [Fm.cellsL] at hnm
  simp [set_lt, hid, hb1, Fm.cellsL] at he
  simp at hp
  simp only [hb1, validAL_one]
  rw [hb1] at c5
  simp at c5
  simp [Tryz.f68, a68, reg68, loop68, draw68, dok68, hgm, hid, hid1, hid4, at_lt, set_lt, w1, wd, c1, c2, c3, c4, ← c5, k0, k14, k1, k2, k3, k4, k5, har, c6, c9, c12, c13, hkn, eq_true c10, hnm, hb1, Fm.cellsL, hgl, hgg, hne, hne', hgl4]
  rw [evCode_loop]
  cases hv : (validA top (some (partA g a.op)) b (left - 1) (deep + 1)).1
  · simp [hv] at he
    simp [round, Tryz.f68, a68, reg68, loop68, draw68, dok68, hgm, hid, hid1, hid4, at_lt, set_lt, wd, hp, he, hv, leave_setb, hgl, hgg, hne, hne', hgl4]
  · simp [hv] at he
    simp [round, Tryz.f68, a68, reg68, loop68, draw68, dok68, hgm, hid, hid1, hid4, at_lt, set_lt, wd, hp, he, hv, endRound_S, hgl, hgg, hne, hne', hgl4]
    rw [evCode_loop]
    simp [round, Tryz.f68, a68, reg68, loop68, draw68, dok68, leave_setb]
set_option maxHeartbeats 16000000 in
theorem ev_valid_T (a : Fm) (hb : a.nodes ≤ 1000000000) (H : ∀ b, b ∈ a.args → VOk b) (top : Fun) (left deep : Int) (m : Mem) (id : Nat) (hs : shapedF top = true) (hl0 : -1000000 ≤ left) (hl1 : left ≤ 1000000) (hd0 : 0 ≤ deep) (hd1 : deep ≤ 1000000) (hbx : m.bx[id]? = some (top.cells ++ [.int .i64 left])) :
    evCall C0 68 [.ptr id 0, (.ptr id 0), .agg a.cells, .int .i64 deep] m = some (.ret (.bool (validA top (some top) a left deep).1), ⟨m.bx.set id (top.cells ++ [.int .i64 (validA top (some top) a left deep).2]), m.rw⟩) := by
  have hid : id < m.bx.length := (List.getElem?_eq_some_iff.1 hbx).1
  have hgm := (List.getElem?_eq_some_iff.1 hbx).2
  have hid4 : id < m.bx.length + 4 := by omega
  have hid1 : id < m.bx.length + 1 := by omega
  rw [evCall_body C0 (C0_ext _ (by decide)) (by rw [C0_P]; exact Tryz.func68) rfl (by rw [C0_ann]; rfl) (by rw [C0_ann]; rfl) (by decide) (by simp [Tryz.f68])]
  have hlen := a.length_args
  rw [validA_eq]
  have w1 : IntKind.i64.wrap (left - 1) = left - 1 := wrap_id _ (by omega)
  by_cases c1 : left - 1 < 0
  case pos => simp [Tryz.f68, a68, reg68, loop68, draw68, dok68, hgm, hid, hid1, hid4, at_lt, set_lt, w1, c1, leave_setb]
  by_cases c2 : 100 < deep
  case pos => simp [Tryz.f68, a68, reg68, loop68, draw68, dok68, hgm, hid, hid1, hid4, at_lt, set_lt, w1, c1, c2, leave_setb]
  by_cases c3 : a.op < 0
  case pos => simp [Tryz.f68, a68, reg68, loop68, draw68, dok68, hgm, hid, hid1, hid4, at_lt, set_lt, w1, c1, c2, c3, leave_setb]
  by_cases c4 : 13 < a.op
  case pos => simp [Tryz.f68, a68, reg68, loop68, draw68, dok68, hgm, hid, hid1, hid4, at_lt, set_lt, w1, c1, c2, c3, c4, leave_setb]
  have k0 : 0 ≤ a.op := by omega
  have k14 : a.op < 14 := by omega
  have har := rulesT_args k0 (by omega)
  have k1 : 1 ≤ 42 - (a.op.toNat * 3 + 2) := by omega
  have k2 : 1 ≤ 42 - (a.op.toNat * 3 + 1) := by omega
  have k3 : a.op.toNat * 3 + 3 ≤ 42 := by omega
  have k4 : 1 ≤ 40 - a.op.toNat * 3 := by omega
  have k5 : 1 ≤ 41 - a.op.toNat * 3 := by omega
  have wd : IntKind.i64.wrap (deep + 1) = deep + 1 := wrap_id _ (by omega)
  by_cases c5 : (a.args.length : Int) = arityA a.op
  case neg => simp [Tryz.f68, a68, reg68, loop68, draw68, dok68, hgm, hid, hid1, hid4, at_lt, set_lt, w1, c1, c2, c3, c4, c5, k0, k14, k1, k2, k3, k4, k5, har, leave_setb]
  have hno : ¬ (left - 1 < 0 ∨ 100 < deep ∨ a.op < 0 ∨ 13 < a.op ∨ ¬ (a.args.length : Int) = arityA a.op) := by
    rintro (h | h | h | h | h)
    · exact c1 h
    · exact c2 h
    · exact c3 h
    · exact c4 h
    · exact h c5
  rw [if_neg hno]
  have hGP : GP m.bx id top (some top) (.ptr id 0) := ⟨id, rfl, .inr ⟨rfl, rfl⟩⟩
  by_cases c6 : a.op ≤ 2
  · by_cases c7 : a.num = 0 ∧ a.mun = 0
    case neg =>
      have hct : ctxA top (some top) a.op a.num a.mun = none := by unfold ctxA; rw [if_pos c6, if_neg c7]
      rw [hct]
      by_cases c8 : a.num = 0
      · have c9 : ¬ a.mun = 0 := fun h => c7 ⟨c8, h⟩
        simp [Tryz.f68, a68, reg68, loop68, draw68, dok68, hgm, hid, hid1, hid4, at_lt, set_lt, w1, c1, c2, c3, c4, eq_true c5, k0, k14, k1, k2, k3, k4, k5, har, c6, c8, c9, leave_setb]
      · simp [Tryz.f68, a68, reg68, loop68, draw68, dok68, hgm, hid, hid1, hid4, at_lt, set_lt, w1, c1, c2, c3, c4, eq_true c5, k0, k14, k1, k2, k3, k4, k5, har, c6, c8, leave_setb]
    have hct : ctxA top (some top) a.op a.num a.mun = some (some top) := by unfold ctxA; rw [if_pos c6, if_pos c7]
    rw [hct]
    have c9 : ¬ a.op = 3 := by omega
    have hco := ev_ContainsAS (h := 112) (caps := [.ptr m.bx.length 0, .ptr (m.bx.length + 1) 0, .ptr (m.bx.length + 3) 0]) (M := m.bx) (L := [[.ptr id 0], [(.ptr id 0)], a.cells, [.int .i64 deep]]) (id := id) (top := top) (R := m.rw) (ok := fun b q => validA top (some top) b q (deep + 1)) a.args (by omega) hid (by simp) (by simp [hid4]) (fun q => 0 ≤ q ∧ q ≤ 1000000)
      (fun b hm q hq => ev_valid_in b (H b hm) top (some top) (.ptr id 0) q deep m.bx _ m.rw id 0 hs (fun g' hg' => by cases hg'; exact hs) (by omega) (by omega) hd0 (by omega) hid hGP rfl rfl rfl)
      (fun b hm q hq h => by have := validA_le top (some top) b q (deep + 1); have := validA_pos top (some top) b q (deep + 1) h; omega) (left - 1) (by omega)
    rw [goA_valid] at hco
    obtain ⟨c7a, c7b⟩ := c7
    simp [c7a, c7b] at hco
    simp [Tryz.f68, a68, reg68, loop68, draw68, dok68, hgm, hid, hid1, hid4, at_lt, set_lt, w1, c1, c2, c3, c4, eq_true c5, k0, k14, k1, k2, k3, k4, k5, har, c6, c7a, c7b, c9, hco, leave_setb]
  by_cases c9 : a.op = 3
  · by_cases c7 : a.num = 0 ∧ a.mun = 0
    case neg =>
      have hct : ctxA top (some top) a.op a.num a.mun = none := by unfold ctxA; rw [if_neg c6, if_pos c9, if_neg (fun h => c7 ⟨h.1, h.2.1⟩)]
      rw [hct]
      by_cases c8 : a.num = 0
      · have c10 : ¬ a.mun = 0 := fun h => c7 ⟨c8, h⟩
        rw [c9] at har c5
        simp at har
        simp [Tryz.f68, a68, reg68, loop68, draw68, dok68, hgm, hid, hid1, hid4, at_lt, set_lt, w1, c1, c2, eq_true c5, har, c9, c8, c10, leave_setb]
      · rw [c9] at har c5
        simp at har
        simp [Tryz.f68, a68, reg68, loop68, draw68, dok68, hgm, hid, hid1, hid4, at_lt, set_lt, w1, c1, c2, eq_true c5, har, c9, c8, leave_setb]
    obtain ⟨c7a, c7b⟩ := c7
    have hct : ctxA top (some top) a.op a.num a.mun = none := by unfold ctxA; rw [if_neg c6, if_pos c9, if_neg (fun h => by simpa using h.2.2)]
    rw [hct]
    rw [c9] at har c5
    simp at har
    simp [Tryz.f68, a68, reg68, loop68, draw68, dok68, hgm, hid, hid1, hid4, at_lt, set_lt, w1, c1, c2, eq_true c5, har, c9, c7a, c7b, leave_setb]
  have c6' : ¬ a.op ≤ 2 := c6
  have hkn := rulesT_kind (k := a.op) (by omega) (by omega)
  have hnm := ev_PNums top a
  simp at hnm
  by_cases c10 : top.kind = kindO a.op
  case neg =>
    have hct : ctxA top (some top) a.op a.num a.mun = none := by unfold ctxA; rw [if_neg c6, if_neg c9]; simp only; rw [if_neg (fun h => c10 h.1)]
    rw [hct]
    simp [Tryz.f68, a68, reg68, loop68, draw68, dok68, hgm, hid, hid1, hid4, at_lt, set_lt, w1, c1, c2, c3, c4, eq_true c5, k0, k14, k1, k2, k3, k4, k5, har, c6, c9, hkn, c10, leave_setb]
  cases c11 : numsA top a.op a.num a.mun
  · have hct : ctxA top (some top) a.op a.num a.mun = none := by unfold ctxA; rw [if_neg c6, if_neg c9]; simp only; rw [if_neg (fun h => by rw [c11] at h; exact absurd h.2 (by decide))]
    rw [hct]
    simp [c11] at hnm
    simp [Tryz.f68, a68, reg68, loop68, draw68, dok68, hgm, hid, hid1, hid4, at_lt, set_lt, w1, c1, c2, c3, c4, eq_true c5, k0, k14, k1, k2, k3, k4, k5, har, c6, c9, hkn, eq_true c10, hnm, leave_setb]
  simp [c11] at hnm
  by_cases c12 : a.op = 4
  · have hct : ctxA top (some top) a.op a.num a.mun = some none := by unfold ctxA; rw [if_neg c6, if_neg c9]; simp only; rw [if_pos ⟨c10, c11⟩, if_pos c12]
    rw [hct]
    obtain ⟨b, hb1⟩ := one_arg c5 (by omega) (by omega) (by omega)
    have he := (H b (by rw [hb1]; exact List.mem_cons_self)) top none .nilp (left - 1) (deep + 1) ⟨m.bx.set id (top.cells ++ [.int .i64 (left - 1)]) ++ [[.ptr id 0], [(.ptr id 0)], a.cells, [.int .i64 deep]], m.rw⟩ id hs (fun g' hg' => by cases hg') (by omega) (by omega) (by omega) (by omega) (by rw [List.getElem?_append_left (by simpa using hid)]; simp [hid]) rfl
    rw [c12] at har c5 hkn c10 hnm
    rw [hb1] at c5 hnm
    simp at har hkn
    simp [Fm.cellsL] at hnm
    simp [set_lt, hid, hb1, Fm.cellsL, c12] at he
    simp only [hb1, validAL_one]
    simp [Tryz.f68, a68, reg68, loop68, draw68, dok68, hgm, hid, hid1, hid4, at_lt, set_lt, w1, wd, c1, c2, har, c12, hkn, eq_true c10, hnm, hb1, Fm.cellsL, show arityA 4 = 1 from rfl, he, leave_setb]
  have hct : ctxA top (some top) a.op a.num a.mun = some (some (partA top a.op)) := by unfold ctxA; rw [if_neg c6, if_neg c9]; simp only; rw [if_pos ⟨c10, c11⟩, if_neg c12]
  rw [hct]
  by_cases c13 : a.op = 5
  · have hb1 : a.args = [] := by
      rw [c13, show arityA 5 = 0 from rfl] at c5
      exact List.eq_nil_of_length_eq_zero (by omega)
    rw [c13] at har hkn c10 hnm
    rw [hb1] at hnm
    simp at har hkn
    simp at hnm
    simp only [hb1, validAL]
    simp [Tryz.f68, a68, reg68, loop68, draw68, dok68, hgm, hid, hid1, hid4, at_lt, set_lt, w1, wd, c1, c2, har, c13, hkn, eq_true c10, hnm, hb1, show arityA 5 = 0 from rfl, leave_setb]
    rw [evCode_loop]
    simp [round, Tryz.f68, a68, reg68, loop68, draw68, dok68, leave_setb]
  obtain ⟨b, hb1⟩ := one_arg c5 (by omega) c13 (by omega)
  have hlt := part_lt hs (by omega) (by omega) c10.symm
  have hp := ev_PPart top a.op hlt
  have he := (H b (by rw [hb1]; exact List.mem_cons_self)) top (some (partA top a.op)) (.ptr (m.bx.length + 5) 0) (left - 1) (deep + 1) ⟨m.bx.set id (top.cells ++ [.int .i64 (left - 1)]) ++ [[.ptr id 0], [(.ptr id 0)], a.cells, [.int .i64 deep], b.cells, (partA top a.op).cells], m.rw⟩ id hs (fun g' hg' => by cases hg'; exact part_shaped hs hlt) (by omega) (by omega) (by omega) (by omega) (by rw [List.getElem?_append_left (by simpa using hid)]; simp [hid]) ⟨m.bx.length + 5, rfl, .inl ⟨by omega, by simp⟩⟩
  have hlr : (a.args.length : Int) = 1 := by rw [hb1]; rfl
  rw [hb1] at hnm
  simp [Fm.cellsL] at hnm
  simp [set_lt, hid, hb1, Fm.cellsL] at he
  simp at hp
  simp only [hb1, validAL_one]
  rw [hb1] at c5
  simp at c5
  simp [Tryz.f68, a68, reg68, loop68, draw68, dok68, hgm, hid, hid1, hid4, at_lt, set_lt, w1, wd, c1, c2, c3, c4, ← c5, k0, k14, k1, k2, k3, k4, k5, har, c6, c9, c12, c13, hkn, eq_true c10, hnm, hb1, Fm.cellsL]
  rw [evCode_loop]
  cases hv : (validA top (some (partA top a.op)) b (left - 1) (deep + 1)).1
  · simp [hv] at he
    simp [round, Tryz.f68, a68, reg68, loop68, draw68, dok68, hgm, hid, hid1, hid4, at_lt, set_lt, wd, hp, he, hv, leave_setb]
  · simp [hv] at he
    simp [round, Tryz.f68, a68, reg68, loop68, draw68, dok68, hgm, hid, hid1, hid4, at_lt, set_lt, wd, hp, he, hv, endRound_S]
    rw [evCode_loop]
    simp [round, Tryz.f68, a68, reg68, loop68, draw68, dok68, leave_setb]
theorem ev_VOk (N : Nat) : ∀ (a : Fm), a.nodes ≤ N → a.nodes ≤ 1000000000 → VOk a := by
  induction N with
  | zero => intro a hN; have := a.nodes_pos; omega
  | succ N ih =>
  intro a hN hb
  have H : ∀ b, b ∈ a.args → VOk b := fun b hm => ih b (by have := Fm.nodes_arg hm; omega) (by have := Fm.nodes_arg hm; omega)
  intro top g pg left deep m id hs hgs h0 h1 h2 h3 hbx hG
  cases g with
  | none =>
    rw [show pg = A.nilp from hG]
    exact ev_valid_N a hb H top left deep m id hs h0 h1 h2 h3 hbx
  | some g =>
    obtain ⟨gid, rfl, h4⟩ := hG
    rcases h4 with ⟨h4, h5⟩ | ⟨rfl, rfl⟩
    · exact ev_valid_P a hb H top left deep m id hs h0 h1 h2 h3 hbx g gid (hgs g rfl) h4 h5
    · exact ev_valid_T a hb H g left deep m gid hs h0 h1 h2 h3 hbx
theorem ev_ValidA (f : Fun) (a : Fm) (hf : shapedF f = true) (hb : a.nodes ≤ 1000000000) (m : Mem) : evCall C0 36 [.agg f.cells, .agg a.cells] m = some (.ret (.bool (isFm f a)), m) := by
  rw [evCall_body C0 (C0_ext _ (by decide)) (by rw [C0_P]; exact Tryz.func36) rfl (by rw [C0_ann]; rfl) (by rw [C0_ann]; rfl) (by decide) (by simp [Tryz.f36])]
  have he := ev_VOk a.nodes a (Nat.le_refl _) hb f none .nilp 2000 1 ⟨m.bx ++ [f.cells, a.cells, f.cells ++ [.int .i64 2000]], m.rw⟩ (m.bx.length + 2) hf (fun g' hg' => by cases hg') (by omega) (by omega) (by omega) (by omega) (by simp) rfl
  rw [valid_isFm] at he
  simp at he
  simp [Tryz.f36, a36, reg36, he]
def idxA {α : Type} (p : α → Bool) : List α → Int → Int
  | [], _ => -1
  | a :: r, i => if p a then i else idxA p r (i + 1)
theorem idxA_pos {α : Type} (p : α → Bool) : ∀ (l : List α) (i : Int), 0 ≤ i → decide (0 ≤ idxA p l i) = l.any p
  | [], i, _ => rfl
  | a :: r, i, h => by
    rw [idxA, List.any_cons]
    split
    · rename_i hp; simp [hp, h]
    · rename_i hp; rw [idxA_pos p r (i + 1) (by omega)]; simp [hp]
theorem idxA_drop {α : Type} {p : α → Bool} {l : List α} {i : Nat} (h : i < l.length) : idxA p (l.drop i) i = if p l[i] then (i : Int) else idxA p (l.drop (i + 1)) ((i + 1 : Nat) : Int) := by
  rw [List.drop_eq_getElem_cons h, idxA]
  rfl
section
variable {g : FuncId} {caps : List A}
set_option maxHeartbeats 2000000 in
theorem ev_IndexV (p : Val → Bool) (l : List Val) (fl : Bool) (hl : l.length ≤ 1000000000) (m : Mem) (hcl : closed m.bx.length m.rw.length (.fn g caps) = true) (hp : ∀ u, u ∈ l → evCall C0 g (.agg u.cells :: caps) m = some (.ret (.bool (p u)), m)) :
    evCall C0 195 [.isl fl l.length (Val.cellsL l), .fn g caps] m = some (.ret (.int .i64 (idxA p l 0)), m) := by
  rw [evCall_body C0 (C0_ext _ (by decide)) (by rw [C0_P]; exact Tryz.func195) rfl (by rw [C0_ann]; rfl) (by rw [C0_ann]; rfl) (by decide) (by simp [Tryz.f195])]
  simp [Tryz.f195, a195, reg195, loop195]
  refine loop_in (fun i : Nat => ⟨[(0, .isl fl l.length (Val.cellsL l)), (1, .fn g caps), (7, .int .i64 l.length), (8, .int .i64 i)], m⟩)
    (fun i => some (.ret (.int .i64 (idxA p (l.drop i) i)), m)) (fun i => l.length - i) (fun i => i ≤ l.length) 0 ?_ ?_ ?_ ?_ ?_
  · simp
  · simp
  · simp
  · intro x; simp [Tryz.f195, a195, reg195, loop195]
  · intro i hi hrec
    by_cases hlt : i < l.length
    · have w2 : IntKind.i64.wrap (i + 1) = i + 1 := wrap_id _ (by omega)
      have h3 : (i + 1) * 3 ≤ l.length * 3 := by omega
      have he := hp l[i] (List.getElem_mem hlt)
      simp at he
      rw [idxA_drop hlt]
      cases hc : p l[i]
      · simp [hc] at he
        simp [round, Tryz.f195, a195, reg195, loop195, hlt, w2, h3, he, endRound_M0, hcl]
        refine hrec (i + 1) _ _ ?_ ?_ ?_ ?_
        · omega
        · omega
        · simp
        · simp
      · simp [hc] at he
        simp [round, Tryz.f195, a195, reg195, loop195, hlt, w2, h3, he]
    · clear hrec
      rw [List.drop_eq_nil_of_le (by omega), idxA]
      simp [round, Tryz.f195, a195, reg195, loop195, hlt]
theorem ev_ContainsV (p : Val → Bool) (l : List Val) (fl : Bool) (hl : l.length ≤ 1000000000) (m : Mem) (hcl : closed m.bx.length m.rw.length (.fn g caps) = true) (hp : ∀ u, u ∈ l → evCall C0 g (.agg u.cells :: caps) m = some (.ret (.bool (p u)), m)) :
    evCall C0 164 [.isl fl l.length (Val.cellsL l), .fn g caps] m = some (.ret (.bool (l.any p)), m) := by
  rw [evCall_body C0 (C0_ext _ (by decide)) (by rw [C0_P]; exact Tryz.func164) rfl (by rw [C0_ann]; rfl) (by rw [C0_ann]; rfl) (by decide) (by simp [Tryz.f164])]
  have he := ev_IndexV p l fl hl m hcl hp
  have h1 := idxA_pos p l 0 (by omega)
  simp [Tryz.f164, a164, reg164, he, h1]
set_option maxHeartbeats 2000000 in
theorem ev_IndexI (p : Int → Bool) (l : List Int) (fl : Bool) (hl : l.length ≤ 1000000000) (m : Mem) (hcl : closed m.bx.length m.rw.length (.fn g caps) = true) (hp : ∀ u, u ∈ l → evCall C0 g (.int .i64 u :: caps) m = some (.ret (.bool (p u)), m)) :
    evCall C0 93 [.isl fl l.length (ints l), .fn g caps] m = some (.ret (.int .i64 (idxA p l 0)), m) := by
  rw [evCall_body C0 (C0_ext _ (by decide)) (by rw [C0_P]; exact Tryz.func93) rfl (by rw [C0_ann]; rfl) (by rw [C0_ann]; rfl) (by decide) (by simp [Tryz.f93])]
  simp [Tryz.f93, a93, reg93, loop93]
  refine loop_in (fun i : Nat => ⟨[(0, .isl fl l.length (ints l)), (1, .fn g caps), (7, .int .i64 l.length), (8, .int .i64 i)], m⟩)
    (fun i => some (.ret (.int .i64 (idxA p (l.drop i) i)), m)) (fun i => l.length - i) (fun i => i ≤ l.length) 0 ?_ ?_ ?_ ?_ ?_
  · simp
  · simp
  · simp
  · intro x; simp [Tryz.f93, a93, reg93, loop93]
  · intro i hi hrec
    by_cases hlt : i < l.length
    · have w2 : IntKind.i64.wrap (i + 1) = i + 1 := wrap_id _ (by omega)
      have h3 : i + 1 ≤ l.length := by omega
      have he := hp l[i] (List.getElem_mem hlt)
      have hat := ints_at hlt
      rw [idxA_drop hlt]
      cases hc : p l[i]
      · simp [hc] at he
        simp [round, Tryz.f93, a93, reg93, loop93, hlt, w2, h3, he, hat, endRound_M0, hcl]
        refine hrec (i + 1) _ _ ?_ ?_ ?_ ?_
        · omega
        · omega
        · simp
        · simp
      · simp [hc] at he
        simp [round, Tryz.f93, a93, reg93, loop93, hlt, w2, h3, he, hat]
    · clear hrec
      rw [List.drop_eq_nil_of_le (by omega), idxA]
      simp [round, Tryz.f93, a93, reg93, loop93, hlt]
theorem ev_ContainsI (p : Int → Bool) (l : List Int) (fl : Bool) (hl : l.length ≤ 1000000000) (m : Mem) (hcl : closed m.bx.length m.rw.length (.fn g caps) = true) (hp : ∀ u, u ∈ l → evCall C0 g (.int .i64 u :: caps) m = some (.ret (.bool (p u)), m)) :
    evCall C0 56 [.isl fl l.length (ints l), .fn g caps] m = some (.ret (.bool (l.any p)), m) := by
  rw [evCall_body C0 (C0_ext _ (by decide)) (by rw [C0_P]; exact Tryz.func56) rfl (by rw [C0_ann]; rfl) (by rw [C0_ann]; rfl) (by decide) (by simp [Tryz.f56])]
  have he := ev_IndexI p l fl hl m hcl hp
  have h1 := idxA_pos p l 0 (by omega)
  simp [Tryz.f56, a56, reg56, he, h1]
end
def Keeps (bx Y : List (List A)) : Prop := bx.length ≤ Y.length ∧ ∀ i, i < bx.length → Y[i]? = bx[i]?
theorem Keeps.refl (bx : List (List A)) : Keeps bx bx := ⟨Nat.le_refl _, fun _ _ => rfl⟩
theorem Keeps.more {bx Y : List (List A)} (h : Keeps bx Y) (L : List (List A)) : Keeps bx (Y ++ L) := ⟨by rw [List.length_append]; have := h.1; omega, fun i hi => by
  rw [List.getElem?_append_left (by have := h.1; omega)]
  exact h.2 i hi⟩
theorem Keeps.app (bx L : List (List A)) : Keeps bx (bx ++ L) := (Keeps.refl bx).more L
theorem Keeps.trans {a b c : List (List A)} (h : Keeps a b) (k : Keeps b c) : Keeps a c := ⟨Nat.le_trans h.1 k.1, fun i hi => by
  rw [k.2 i (by have := h.1; omega)]
  exact h.2 i hi⟩
theorem Keeps.at {bx Y : List (List A)} (h : Keeps bx Y) {k : Nat} {x : List A} (hk : bx[k]? = some x) : Y[k]? = some x := by
  have := (List.getElem?_eq_some_iff.1 hk).1
  rw [h.2 k this]
  exact hk
def ClOk (bx : List (List A)) (clo : A) (p : Val → Bool) (D : Val → Prop) : Prop := ∃ h caps, clo = .fn h caps ∧ (∀ c, c ∈ caps → ∃ k, c = .ptr k 0 ∧ k < bx.length) ∧ ∀ u, D u → ∀ m : Mem, Keeps bx m.bx → evCall C0 h (.agg u.cells :: caps) m = some (.ret (.bool (p u)), m)
theorem ClOk.more {bx Y : List (List A)} {clo : A} {p : Val → Bool} {D : Val → Prop} (h : ClOk bx clo p D) (hp : Keeps bx Y) : ClOk Y clo p D := by
  obtain ⟨f, caps, rfl, h1, h2⟩ := h
  refine ⟨f, caps, rfl, fun c hc => ?_, fun u hu m hm => h2 u hu m (hp.trans hm)⟩
  obtain ⟨k, rfl, hk⟩ := h1 c hc
  exact ⟨k, rfl, by have := hp.1; omega⟩
theorem caps_closed {caps : List A} {b n nr : Nat} (h : ∀ c, c ∈ caps → ∃ k, c = .ptr k 0 ∧ k < b) (hn : b ≤ n) : caps.all (closed n nr) = true := by
  rw [List.all_eq_true]
  intro c hc
  obtain ⟨k, rfl, hk⟩ := h c hc
  simp
  omega
section
variable {bx : List (List A)} {clo clo' : A} {p q : Val → Bool} {D : Val → Prop}
theorem cl_top : ClOk bx (.fn 154 []) (fun _ => true) D := by
  refine ⟨_, _, rfl, by simp, fun u hu m hm => ?_⟩
  dsimp only
  rw [evCall_body C0 (C0_ext _ (by decide)) (by rw [C0_P]; exact Tryz.func154) rfl (by rw [C0_ann]; rfl) (by rw [C0_ann]; rfl) (by decide) (by simp [Tryz.f154])]
  simp [Tryz.f154, a154, reg154]
theorem cl_not {k : Nat} (hk : bx[k]? = some [clo]) (hc : ClOk bx clo p D) : ClOk bx (.fn 155 [.ptr k 0]) (fun u => !(p u)) D := by
  obtain ⟨h, caps, rfl, h1, h2⟩ := hc
  have hkl := (List.getElem?_eq_some_iff.1 hk).1
  refine ⟨_, _, rfl, by simp [hkl], fun u hu m hm => ?_⟩
  have hm1 := hm.at hk
  have hml := (List.getElem?_eq_some_iff.1 hm1).1
  have hmg := (List.getElem?_eq_some_iff.1 hm1).2
  have he := h2 u hu ⟨m.bx ++ [u.cells], m.rw⟩ (hm.more _)
  dsimp only
  rw [evCall_body C0 (C0_ext _ (by decide)) (by rw [C0_P]; exact Tryz.func155) rfl (by rw [C0_ann]; rfl) (by rw [C0_ann]; rfl) (by decide) (by simp [Tryz.f155])]
  simp at he
  simp [Tryz.f155, a155, reg155, at_lt, hml, hmg, he]
theorem cl_and {k j : Nat} (hk : bx[k]? = some [clo]) (hj : bx[j]? = some [clo']) (hc : ClOk bx clo p D) (hc' : ClOk bx clo' q D) : ClOk bx (.fn 156 [.ptr k 0, .ptr j 0]) (fun u => p u && q u) D := by
  obtain ⟨h, caps, rfl, h1, h2⟩ := hc
  obtain ⟨h', caps', rfl, h1', h2'⟩ := hc'
  have hkl := (List.getElem?_eq_some_iff.1 hk).1
  have hjl := (List.getElem?_eq_some_iff.1 hj).1
  refine ⟨_, _, rfl, by simp [hkl, hjl], fun u hu m hm => ?_⟩
  have hm1 := hm.at hk
  have hml := (List.getElem?_eq_some_iff.1 hm1).1
  have hmg := (List.getElem?_eq_some_iff.1 hm1).2
  have hm2 := hm.at hj
  have hml2 := (List.getElem?_eq_some_iff.1 hm2).1
  have hmg2 := (List.getElem?_eq_some_iff.1 hm2).2
  have he := h2 u hu ⟨m.bx ++ [u.cells], m.rw⟩ (hm.more _)
  have he' := h2' u hu ⟨m.bx ++ [u.cells], m.rw⟩ (hm.more _)
  dsimp only
  rw [evCall_body C0 (C0_ext _ (by decide)) (by rw [C0_P]; exact Tryz.func156) rfl (by rw [C0_ann]; rfl) (by rw [C0_ann]; rfl) (by decide) (by simp [Tryz.f156])]
  simp at he he'
  cases hp : p u
  · simp [hp] at he
    simp [Tryz.f156, a156, reg156, at_lt, hml, hmg, he]
  · simp [hp] at he
    simp [Tryz.f156, a156, reg156, at_lt, hml, hmg, hml2, hmg2, he, he']
theorem cl_at {k : Nat} {S : List Bool} (hk : bx[k]? = some [.isl false S.length (boolsL S)]) (hD : ∀ u, D u → 0 ≤ u.num ∧ u.num < S.length) : ClOk bx (.fn 157 [.ptr k 0]) (fun u => S.getD u.num.toNat false) D := by
  have hkl := (List.getElem?_eq_some_iff.1 hk).1
  refine ⟨_, _, rfl, by simp [hkl], fun u hu m hm => ?_⟩
  have hm1 := hm.at hk
  have hml := (List.getElem?_eq_some_iff.1 hm1).1
  have hmg := (List.getElem?_eq_some_iff.1 hm1).2
  obtain ⟨q0, q1⟩ := hD u hu
  obtain ⟨x, hx⟩ : ∃ x : Nat, u.num = x := ⟨u.num.toNat, by omega⟩
  have hxl : x < S.length := by omega
  have hx1 : x + 1 ≤ S.length := by omega
  have hat := boolsL_at hxl
  have hgd : S.getD x false = S[x] := by simp [List.getD_eq_getElem?_getD, hxl]
  dsimp only
  rw [evCall_body C0 (C0_ext _ (by decide)) (by rw [C0_P]; exact Tryz.func157) rfl (by rw [C0_ann]; rfl) (by rw [C0_ann]; rfl) (by decide) (by simp [Tryz.f157])]
  rw [hx, Int.toNat_natCast, hgd]
  simp [Tryz.f157, a157, reg157, at_lt, hml, hmg, hx, hxl, hx1, hat]
theorem cl_is {k : Nat} {a : Fm} (hk : bx[k]? = some a.cells) : ClOk bx (.fn 158 [.ptr k 0]) (fun u => decide (u.num = a.num)) D := by
  have hkl := (List.getElem?_eq_some_iff.1 hk).1
  refine ⟨_, _, rfl, by simp [hkl], fun u hu m hm => ?_⟩
  have hm1 := hm.at hk
  have hml := (List.getElem?_eq_some_iff.1 hm1).1
  have hmg := (List.getElem?_eq_some_iff.1 hm1).2
  dsimp only
  rw [evCall_body C0 (C0_ext _ (by decide)) (by rw [C0_P]; exact Tryz.func158) rfl (by rw [C0_ann]; rfl) (by rw [C0_ann]; rfl) (by decide) (by simp [Tryz.f158])]
  simp [Tryz.f158, a158, reg158, at_lt, hml, hmg]
theorem cl_first {k : Nat} {D' : Val → Prop} (hk : bx[k]? = some [clo]) (hc : ClOk bx clo p D) (hD : ∀ u, D' u → ∃ h : 0 < u.args.length, D u.args[0]) : ClOk bx (.fn 159 [.ptr k 0]) (fun u => p (u.args.getD 0 val0)) D' := by
  obtain ⟨h, caps, rfl, h1, h2⟩ := hc
  have hkl := (List.getElem?_eq_some_iff.1 hk).1
  refine ⟨_, _, rfl, by simp [hkl], fun u hu m hm => ?_⟩
  have hm1 := hm.at hk
  have hml := (List.getElem?_eq_some_iff.1 hm1).1
  have hmg := (List.getElem?_eq_some_iff.1 hm1).2
  obtain ⟨hl, hd⟩ := hD u hu
  have he := h2 u.args[0] hd ⟨m.bx ++ [u.cells], m.rw⟩ (hm.more _)
  have h3 : 3 ≤ u.args.length * 3 := by omega
  have hat := Val.at_cellsL u.args 0 hl
  have hgd : u.args.getD 0 val0 = u.args[0] := by simp [List.getD_eq_getElem?_getD, hl]
  dsimp only
  rw [evCall_body C0 (C0_ext _ (by decide)) (by rw [C0_P]; exact Tryz.func159) rfl (by rw [C0_ann]; rfl) (by rw [C0_ann]; rfl) (by decide) (by simp [Tryz.f159])]
  rw [hgd]
  simp at he hat
  simp [Tryz.f159, a159, reg159, draw159, dok159, at_lt, hml, hmg, hl, h3, hat, he]
theorem cl_second {k : Nat} {D' : Val → Prop} (hk : bx[k]? = some [clo]) (hc : ClOk bx clo p D) (hD : ∀ u, D' u → ∃ h : 1 < u.args.length, D u.args[1]) : ClOk bx (.fn 160 [.ptr k 0]) (fun u => p (u.args.getD 1 val0)) D' := by
  obtain ⟨h, caps, rfl, h1, h2⟩ := hc
  have hkl := (List.getElem?_eq_some_iff.1 hk).1
  refine ⟨_, _, rfl, by simp [hkl], fun u hu m hm => ?_⟩
  have hm1 := hm.at hk
  have hml := (List.getElem?_eq_some_iff.1 hm1).1
  have hmg := (List.getElem?_eq_some_iff.1 hm1).2
  obtain ⟨hl, hd⟩ := hD u hu
  have he := h2 u.args[1] hd ⟨m.bx ++ [u.cells], m.rw⟩ (hm.more _)
  have h3 : 6 ≤ u.args.length * 3 := by omega
  have hl' : (1 : Int) < u.args.length := by omega
  have hat := Val.at_cellsL u.args 1 hl
  have hgd : u.args.getD 1 val0 = u.args[1] := by simp [List.getD_eq_getElem?_getD, hl]
  dsimp only
  rw [evCall_body C0 (C0_ext _ (by decide)) (by rw [C0_P]; exact Tryz.func160) rfl (by rw [C0_ann]; rfl) (by rw [C0_ann]; rfl) (by decide) (by simp [Tryz.f160])]
  rw [hgd]
  simp at he hat
  simp [Tryz.f160, a160, reg160, draw160, dok160, at_lt, hml, hmg, hl, hl', h3, hat, he]
theorem cl_side {k j : Nat} {a : Fm} {D' : Val → Prop} (hj : bx[j]? = some a.cells) (hk : bx[k]? = some [clo]) (hc : ClOk bx clo p D) (ha : a.op = 8 ∨ a.op = 9) (hD : ∀ u, D' u → u.num = a.op - 8 → ∃ h : 0 < u.args.length, D u.args[0]) : ClOk bx (.fn 161 [.ptr j 0, .ptr k 0]) (fun u => decide (u.num = a.op - 8) && p (u.args.getD 0 val0)) D' := by
  obtain ⟨h, caps, rfl, h1, h2⟩ := hc
  have hkl := (List.getElem?_eq_some_iff.1 hk).1
  have hjl := (List.getElem?_eq_some_iff.1 hj).1
  refine ⟨_, _, rfl, by simp [hkl, hjl], fun u hu m hm => ?_⟩
  have hm1 := hm.at hk
  have hml := (List.getElem?_eq_some_iff.1 hm1).1
  have hmg := (List.getElem?_eq_some_iff.1 hm1).2
  have hm2 := hm.at hj
  have hml2 := (List.getElem?_eq_some_iff.1 hm2).1
  have hmg2 := (List.getElem?_eq_some_iff.1 hm2).2
  have w : IntKind.i64.wrap (a.op - 8) = a.op - 8 := wrap_id _ (by omega)
  dsimp only
  rw [evCall_body C0 (C0_ext _ (by decide)) (by rw [C0_P]; exact Tryz.func161) rfl (by rw [C0_ann]; rfl) (by rw [C0_ann]; rfl) (by decide) (by simp [Tryz.f161])]
  by_cases hs : u.num = a.op - 8
  · obtain ⟨hl, hd⟩ := hD u hu hs
    have he := h2 u.args[0] hd ⟨m.bx ++ [u.cells], m.rw⟩ (hm.more _)
    have h3 : 3 ≤ u.args.length * 3 := by omega
    have hat := Val.at_cellsL u.args 0 hl
    have hgd : u.args.getD 0 val0 = u.args[0] := by simp [List.getD_eq_getElem?_getD, hl]
    rw [hgd]
    simp [hs] at he
    simp at hat
    simp [Tryz.f161, a161, reg161, draw161, dok161, at_lt, hml, hmg, hml2, hmg2, w, hl, h3, hat, he, hs]
  · simp [Tryz.f161, a161, reg161, draw161, dok161, at_lt, hml2, hmg2, w, hs]
theorem cl_input {k j : Nat} {a : Fm} {D' : Val → Prop} (hj : bx[j]? = some a.cells) (hk : bx[k]? = some [clo]) (hc : ClOk bx clo p D) (ha : 0 ≤ a.num) (hD : ∀ u, D' u → ∃ h : a.num.toNat < u.args.length, D u.args[a.num.toNat]) : ClOk bx (.fn 162 [.ptr k 0, .ptr j 0]) (fun u => p (u.args.getD a.num.toNat val0)) D' := by
  obtain ⟨h, caps, rfl, h1, h2⟩ := hc
  have hkl := (List.getElem?_eq_some_iff.1 hk).1
  have hjl := (List.getElem?_eq_some_iff.1 hj).1
  refine ⟨_, _, rfl, by simp [hkl, hjl], fun u hu m hm => ?_⟩
  have hm1 := hm.at hk
  have hml := (List.getElem?_eq_some_iff.1 hm1).1
  have hmg := (List.getElem?_eq_some_iff.1 hm1).2
  have hm2 := hm.at hj
  have hml2 := (List.getElem?_eq_some_iff.1 hm2).1
  have hmg2 := (List.getElem?_eq_some_iff.1 hm2).2
  obtain ⟨i, hi⟩ : ∃ i : Nat, a.num = i := ⟨a.num.toNat, by omega⟩
  have hD' := hD u hu
  dsimp only
  rw [hi, Int.toNat_natCast]
  simp only [hi, Int.toNat_natCast] at hD'
  obtain ⟨hl, hd⟩ := hD'
  have he := h2 u.args[i] hd ⟨m.bx ++ [u.cells], m.rw⟩ (hm.more _)
  have h3 : (i + 1) * 3 ≤ u.args.length * 3 := by omega
  have hgd : u.args.getD i val0 = u.args[i] := by simp [List.getD_eq_getElem?_getD, hl]
  rw [evCall_body C0 (C0_ext _ (by decide)) (by rw [C0_P]; exact Tryz.func162) rfl (by rw [C0_ann]; rfl) (by rw [C0_ann]; rfl) (by decide) (by simp [Tryz.f162])]
  rw [hgd]
  simp at he
  rw [Fm.cells_eq] at hm2
  simp [Tryz.f162, a162, reg162, draw162, dok162, at_lt, hml, hmg, hml2, (List.getElem?_eq_some_iff.1 hm2).2, hi, hl, h3, he]
theorem cl_some {k : Nat} {D' : Val → Prop} (hk : bx[k]? = some [clo]) (hc : ClOk bx clo p D) (hD : ∀ u, D' u → u.nodes ≤ 1000000 ∧ ∀ x, x ∈ u.args → D x) : ClOk bx (.fn 163 [.ptr k 0]) (fun u => u.args.any p) D' := by
  obtain ⟨h, caps, rfl, h1, h2⟩ := hc
  have hkl := (List.getElem?_eq_some_iff.1 hk).1
  refine ⟨_, _, rfl, by simp [hkl], fun u hu m hm => ?_⟩
  have hm1 := hm.at hk
  have hml := (List.getElem?_eq_some_iff.1 hm1).1
  have hmg := (List.getElem?_eq_some_iff.1 hm1).2
  obtain ⟨hn, hd⟩ := hD u hu
  have hl := u.length_args
  have he := ev_ContainsV (g := h) (caps := caps) p u.args false (by omega) ⟨m.bx ++ [u.cells], m.rw⟩ (by simp only [closed_fn]; exact caps_closed h1 (by have := hm.1; simp; omega)) fun x hx => h2 x (hd x hx) _ (hm.more _)
  dsimp only
  rw [evCall_body C0 (C0_ext _ (by decide)) (by rw [C0_P]; exact Tryz.func163) rfl (by rw [C0_ann]; rfl) (by rw [C0_ann]; rfl) (by decide) (by simp [Tryz.f163])]
  simp at he
  simp [Tryz.f163, a163, reg163, at_lt, hml, hmg, he]
end
section
variable {bx : List (List A)} {clo : A} {p : Val → Bool} {D : Val → Prop}
set_option maxHeartbeats 2000000 in
theorem cl_many {k j : Nat} {a : Fm} {D' : Val → Prop} (hk : bx[k]? = some [clo]) (hj : bx[j]? = some a.cells) (hc : ClOk bx clo p D) (h12 : a.op = 12 ∨ a.op = 13) (hnm : (a.op = 12 → 1 ≤ a.num ∧ a.num ≤ 1048576) ∧ (a.op = 13 → 1 ≤ a.num ∧ a.num ≤ a.mun ∧ a.mun ≤ 1048576))
    (hD : ∀ u, D' u → u.nodes ≤ 1000000 ∧ u.ws.length = u.args.length ∧ (∀ x, x ∈ u.ws → 1 ≤ x) ∧ u.ws.sum ≤ 1048576 ∧ ∀ x, x ∈ u.args → D x) :
    ClOk bx (.fn 165 [.ptr k 0, .ptr j 0]) (fun u => if a.op = 12 then decide (a.num ≤ sumT p u.args u.ws) else decide (a.num * u.ws.sum ≤ sumT p u.args u.ws * a.mun)) D' := by
  obtain ⟨h, caps, rfl, h1, h2⟩ := hc
  have hkl := (List.getElem?_eq_some_iff.1 hk).1
  have hjl := (List.getElem?_eq_some_iff.1 hj).1
  refine ⟨_, _, rfl, by simp [hkl, hjl], fun v hv m hm => ?_⟩
  have hm1 := hm.at hk
  have hml := (List.getElem?_eq_some_iff.1 hm1).1
  have hmg := (List.getElem?_eq_some_iff.1 hm1).2
  have hm2 := hm.at hj
  have hml2 := (List.getElem?_eq_some_iff.1 hm2).1
  rw [Fm.cells_eq] at hm2
  have hmg2 := (List.getElem?_eq_some_iff.1 hm2).2
  have hk1 : k < m.bx.length + 1 := by omega
  have hj1 : j < m.bx.length + 1 := by omega
  obtain ⟨hn, w0, w1, w2, hd⟩ := hD v hv
  have hlen := v.length_args
  dsimp only
  rw [evCall_body C0 (C0_ext _ (by decide)) (by rw [C0_P]; exact Tryz.func165) rfl (by rw [C0_ann]; rfl) (by rw [C0_ann]; rfl) (by decide) (by simp [Tryz.f165])]
  simp [Tryz.f165, a165, reg165, loop165, at_lt, hml, hmg, hml2, hmg2]
  refine loop_in (fun x : Nat × Int × Int => ⟨[(1, .ptr k 0), (2, .ptr j 0), (3, .ptr m.bx.length 0), (5, .int .i64 x.2.2), (6, .int .i64 x.2.1), (10, .isl false v.args.length (Val.cellsL v.args)), (11, .int .i64 v.args.length), (12, .int .i64 x.1)], ⟨m.bx ++ [v.cells], m.rw⟩⟩)
    (fun x => some (.ret (.bool (if a.op = 12 then decide (a.num ≤ x.2.1 + sumT p (v.args.drop x.1) (v.ws.drop x.1)) else decide (a.num * (x.2.2 + (v.ws.drop x.1).sum) ≤ (x.2.1 + sumT p (v.args.drop x.1) (v.ws.drop x.1)) * a.mun))), m)) (fun x => v.args.length - x.1)
    (fun x => x.1 ≤ v.args.length ∧ 0 ≤ x.2.1 ∧ x.2.1 ≤ x.2.2 ∧ x.2.2 + (v.ws.drop x.1).sum ≤ 1048576) (0, 0, 0) ?_ ?_ ?_ ?_ ?_
  · simp
  · simp
  · simp; omega
  · intro x; simp [Tryz.f165, a165, reg165, loop165]
  · rintro ⟨i, s, t⟩ ⟨hi, hs, ht, hst⟩ hrec
    simp only at hi hs ht hst
    have hsb := sumT_bound (fun _ => true) [] (v.ws.drop i) fun x hx => w1 x (List.mem_of_mem_drop hx)
    rw [sumT_nil] at hsb
    by_cases hlt' : i < v.args.length
    · have hlw : i < v.ws.length := by omega
      have e2 : IntKind.i64.wrap (i + 1) = i + 1 := wrap_id _ (by omega)
      have hw1 := w1 _ (List.getElem_mem hlw)
      rw [sum_drop hlw] at hst hsb
      have hsb2 := sumT_bound (fun _ => true) [] (v.ws.drop (i + 1)) fun x hx => w1 x (List.mem_of_mem_drop hx)
      rw [sumT_nil] at hsb2
      have e3 : IntKind.i64.wrap (t + v.ws[i]) = t + v.ws[i] := wrap_id _ (by omega)
      have e4 : IntKind.i64.wrap (s + v.ws[i]) = s + v.ws[i] := wrap_id _ (by omega)
      have h3 : (i + 1) * 3 ≤ v.args.length * 3 := by omega
      have h3' : i + 1 ≤ v.ws.length := by omega
      have hat := ints_at hlw
      have he := h2 v.args[i] (hd _ (List.getElem_mem hlt')) ⟨m.bx ++ [v.cells, v.args[i].cells], m.rw⟩ (hm.more _)
      rw [sumT_drop hlt' hlw, sum_drop hlw]
      simp at he
      cases htr : p v.args[i]
      · simp [htr] at he
        simp [round, Tryz.f165, a165, reg165, loop165, at_lt, hk1, hj1, hml, hmg, hml2, hmg2, hlt', hlw, e2, e3, h3, h3', hat, he, endRound_L]
        refine hrec (i + 1, s, t + v.ws[i]) _ _ ?_ ?_ ?_ ?_
        · simp; omega
        · exact ⟨by simp; omega, by simp; omega, by simp; omega, by simp; omega⟩
        · simp
        · simp [Int.add_assoc]
      · simp [htr] at he
        simp [round, Tryz.f165, a165, reg165, loop165, at_lt, hk1, hj1, hml, hmg, hml2, hmg2, hlt', hlw, e2, e3, e4, h3, h3', hat, he, endRound_L]
        refine hrec (i + 1, s + v.ws[i], t + v.ws[i]) _ _ ?_ ?_ ?_ ?_
        · simp; omega
        · exact ⟨by simp; omega, by simp; omega, by simp; omega, by simp; omega⟩
        · simp
        · simp [Int.add_assoc]
    · clear hrec
      rw [List.drop_eq_nil_of_le (by omega), List.drop_eq_nil_of_le (by omega)] at *
      rw [sumT_nil]
      rcases h12 with h12 | h13
      · simp [round, Tryz.f165, a165, reg165, loop165, at_lt, hk1, hj1, hml, hmg, hml2, hmg2, hlt', h12]
      · obtain ⟨m0, m1, m2⟩ := hnm.2 h13
        simp at hst
        have k1 : s * a.mun ≤ 1048576 * 1048576 := Int.mul_le_mul (by omega) m2 (by omega) (by omega)
        have k2 : 0 ≤ s * a.mun := Int.mul_nonneg (by omega) (by omega)
        have k3 : a.num * t ≤ 1048576 * 1048576 := Int.mul_le_mul (by omega) (by omega) (by omega) (by omega)
        have k4 : 0 ≤ a.num * t := Int.mul_nonneg (by omega) (by omega)
        have e5 : IntKind.i64.wrap (s * a.mun) = s * a.mun := wrap_id _ (by omega)
        have e6 : IntKind.i64.wrap (a.num * t) = a.num * t := wrap_id _ (by omega)
        simp [round, Tryz.f165, a165, reg165, loop165, at_lt, hk1, hj1, hml, hmg, hml2, hmg2, hlt', h13, e5, e6]
end
section
variable (f : Fun) (vs : List Val)
def Dv (g : Fun) (u : Val) : Prop := okV exL vs.length u g = true ∧ u.nodes ≤ 1000000
def VlOk (a : Fm) : Prop := ∀ g, shapedF g = true → okA f (some g) a = true → ∀ m : Mem, ∃ clo L, evCall C0 121 [.agg (sysX f (.isl false vs.length (Val.cellsL vs))), .agg g.cells, .agg a.cells] m = some (.ret clo, ⟨m.bx ++ L, m.rw⟩) ∧ ClOk (m.bx ++ L) clo (truA f vs g a) (Dv vs g)
def SlOk (a : Fm) : Prop := okA f none a = true → ∀ m : Mem, evCall C0 87 [.agg (sysX f (.isl false vs.length (Val.cellsL vs))), .agg a.cells] m = some (.ret (.isl false vs.length (boolsL (setA f vs a))), m)
theorem cl_eq {bx : List (List A)} {clo : A} {p q : Val → Bool} {D : Val → Prop} (h : ClOk bx clo p D) (e : ∀ u, q u = p u) : ClOk bx clo q D := by
  rw [show q = p from funext e]; exact h
theorem after {bx : List (List A)} (s g a : List A) (L : List (List A)) : ∃ X, X = bx ++ ([s, g, a] ++ L) ∧ bx.length + 2 < X.length ∧ X[bx.length]? = some s ∧ X[bx.length + 1]? = some g ∧ X[bx.length + 2]? = some a :=
  ⟨_, rfl, by simp, by simp, by simp, by simp⟩
set_option maxHeartbeats 8000000 in
theorem ev_values1 (a : Fm) (hb : a.nodes ≤ 1000000) (H : ∀ b, b ∈ a.args → VlOk f vs b ∧ SlOk f vs b) (hn : vs.length ≤ 1000000) : VlOk f vs a := by
  intro g hg hok m
  have hkg := shaped_kind hg
  rw [okA_value f g (by omega)] at hok
  simp only [Bool.and_eq_true, decide_eq_true_eq] at hok
  obtain ⟨⟨c1, c2⟩, c3⟩ := hok
  obtain ⟨o0, o1⟩ := arityA_op (op := a.op) (by omega)
  have h : a.op = 0 ∨ a.op = 1 ∨ a.op = 2 ∨ a.op = 3 ∨ a.op = 4 ∨ a.op = 5 ∨ 6 ≤ a.op := by omega
  rcases h with h | h | h | h | h | h | h
  · -- top
    have ha : a.args = [] := List.eq_nil_of_length_eq_zero (by rw [h, show arityA 0 = 0 from rfl] at c1; omega)
    refine ⟨.fn 154 [], [sysX f (.isl false vs.length (Val.cellsL vs)), g.cells, a.cells], ?_, cl_eq cl_top fun u => by rw [truA_0 f vs g u ha, if_neg (by omega)]⟩
    rw [evCall_all C0 (C0_ext _ (by decide)) (by rw [C0_P]; exact Tryz.func121) rfl (by rw [C0_ann]; rfl) (by rw [C0_ann]; rfl) (by decide) (by simp [Tryz.f121])]
    simp [Tryz.f121, a121, reg121, draw121, dok121, h]
  · -- not
    obtain ⟨b, hb1⟩ := one_arg c1 (by omega) (by omega) (by omega)
    rw [if_pos (by omega), hb1, okAL_one] at c3
    obtain ⟨clo, L, he, hc⟩ := (H b (by rw [hb1]; simp)).1 g hg c3 ⟨m.bx ++ [sysX f (.isl false vs.length (Val.cellsL vs)), g.cells, a.cells], m.rw⟩
    obtain ⟨X, hX, x1, x2, x3, x4⟩ := after (bx := m.bx) (sysX f (.isl false vs.length (Val.cellsL vs))) g.cells a.cells L
    have hX' : m.bx ++ [sysX f (.isl false vs.length (Val.cellsL vs)), g.cells, a.cells] ++ L = X := by rw [hX, List.append_assoc]
    simp only [hX'] at he hc
    rw [Fm.cells_eq] at x4
    rw [Fun.cells_eq] at x3
    simp only [sysX_eq, Fun.cells_eq, List.cons_append, List.nil_append] at x2
    have x1a : m.bx.length < X.length := by omega
    have x1b : m.bx.length + 1 < X.length := by omega
    have y2 := (List.getElem?_eq_some_iff.1 x2).2
    have y3 := (List.getElem?_eq_some_iff.1 x3).2
    have y4 := (List.getElem?_eq_some_iff.1 x4).2
    have hc' := hc
    obtain ⟨q, caps, rfl, k1, k2⟩ := hc'
    refine ⟨.fn 155 [.ptr X.length 0], [sysX f (.isl false vs.length (Val.cellsL vs)), g.cells, a.cells] ++ L ++ [[.fn q caps]], ?_, ?_⟩
    · rw [← List.append_assoc, ← hX]
      clear hX hX' hc k1 k2
      rw [evCall_all C0 (C0_ext _ (by decide)) (by rw [C0_P]; exact Tryz.func121) rfl (by rw [C0_ann]; rfl) (by rw [C0_ann]; rfl) (by decide) (by simp [Tryz.f121])]
      simp [h, hb1, Fm.cellsL] at he
      simp [Tryz.f121, a121, reg121, draw121, dok121, h, hb1, Fm.cellsL, he]
    · rw [← List.append_assoc, ← hX]
      refine cl_eq (cl_not (k := X.length) (by simp) (hc.more (.app _ _))) fun u => by rw [truA_1 f vs g u hb1, if_pos h]
  · -- and
    have hl2 : a.args.length = 2 := by rw [h, show arityA 2 = 2 from rfl] at c1; omega
    obtain ⟨b, c, hb1⟩ : ∃ b c, a.args = [b, c] := by
      match a.args, hl2 with
      | [b, c], _ => exact ⟨b, c, rfl⟩
    rw [if_pos (by omega), hb1, okAL, okAL, okAL, Bool.and_true, Bool.and_eq_true] at c3
    obtain ⟨clo, L, he, hc⟩ := (H b (by rw [hb1]; simp)).1 g hg c3.1 ⟨m.bx ++ [sysX f (.isl false vs.length (Val.cellsL vs)), g.cells, a.cells], m.rw⟩
    obtain ⟨X, hX, x1, x2, x3, x4⟩ := after (bx := m.bx) (sysX f (.isl false vs.length (Val.cellsL vs))) g.cells a.cells L
    have hX' : m.bx ++ [sysX f (.isl false vs.length (Val.cellsL vs)), g.cells, a.cells] ++ L = X := by rw [hX, List.append_assoc]
    simp only [hX'] at he hc
    rw [Fm.cells_eq] at x4
    rw [Fun.cells_eq] at x3
    simp only [sysX_eq, Fun.cells_eq, List.cons_append, List.nil_append] at x2
    have x1a : m.bx.length < X.length := by omega
    have x1b : m.bx.length + 1 < X.length := by omega
    have y2 := (List.getElem?_eq_some_iff.1 x2).2
    have y3 := (List.getElem?_eq_some_iff.1 x3).2
    have y4 := (List.getElem?_eq_some_iff.1 x4).2
    have hc' := hc
    obtain ⟨q, caps, rfl, k1, k2⟩ := hc'
    obtain ⟨clo2, L2, he2, hc2⟩ := (H c (by rw [hb1]; simp)).1 g hg c3.2 ⟨X, m.rw⟩
    simp only at he2 hc2
    obtain ⟨Y, hY⟩ : ∃ Y, Y = X ++ L2 := ⟨_, rfl⟩
    rw [← hY] at he2 hc2
    have hXY : Keeps X Y := by rw [hY]; exact .app _ _
    have hc2' := hc2
    obtain ⟨q2, caps2, rfl, k3, k4⟩ := hc2'
    refine ⟨.fn 156 [.ptr Y.length 0, .ptr (Y.length + 1) 0], [sysX f (.isl false vs.length (Val.cellsL vs)), g.cells, a.cells] ++ L ++ L2 ++ [[.fn q caps], [.fn q2 caps2]], ?_, ?_⟩
    · rw [← List.append_assoc, ← List.append_assoc, ← hX, ← hY]
      clear hX hX' hc k1 k2 hY hc2 k3 k4 hXY
      rw [evCall_all C0 (C0_ext _ (by decide)) (by rw [C0_P]; exact Tryz.func121) rfl (by rw [C0_ann]; rfl) (by rw [C0_ann]; rfl) (by decide) (by simp [Tryz.f121])]
      simp [h, hb1, Fm.cellsL] at he he2 y4
      simp [Tryz.f121, a121, reg121, draw121, dok121, h, hb1, Fm.cellsL, he, he2, at_lt, x1, x1a, x1b, y2, y3, y4]
    · rw [← List.append_assoc, ← List.append_assoc, ← hX, ← hY]
      refine cl_eq (cl_and (k := Y.length) (j := Y.length + 1) (by simp) (by simp) ((hc.more hXY).more (.app _ _)) (hc2.more (.app _ _))) fun u => by rw [truA_2 f vs g u hb1]
  · -- step: not for values
    rw [if_neg (by omega)] at c3
    split at c3
    · rename_i hk
      rw [h, show kindO 3 = -1 from rfl] at hk
      omega
    · cases c3
  · -- at
    obtain ⟨b, hb1⟩ := one_arg c1 (by omega) (by omega) (by omega)
    rw [if_neg (by omega)] at c3
    split at c3
    case isFalse => cases c3
    rename_i hk
    try rw [if_pos h] at c3
    rw [hb1, okAL_one] at c3
    have he := (H b (by rw [hb1]; simp)).2 c3 ⟨m.bx ++ [sysX f (.isl false vs.length (Val.cellsL vs)), g.cells, a.cells], m.rw⟩
    rw [h, show kindO 4 = 0 from rfl] at hk
    have hsl := setA_len f vs b.nodes b (Nat.le_refl _)
    refine ⟨.fn 157 [.ptr (m.bx.length + 3) 0], [sysX f (.isl false vs.length (Val.cellsL vs)), g.cells, a.cells] ++ [[.isl false vs.length (boolsL (setA f vs b))]], ?_, ?_⟩
    · clear hsl
      rw [evCall_all C0 (C0_ext _ (by decide)) (by rw [C0_P]; exact Tryz.func121) rfl (by rw [C0_ann]; rfl) (by rw [C0_ann]; rfl) (by decide) (by simp [Tryz.f121])]
      simp [h, hb1, Fm.cellsL] at he
      simp [Tryz.f121, a121, reg121, draw121, dok121, h, hb1, Fm.cellsL, he]
    · refine cl_eq (cl_at (k := m.bx.length + 3) (S := setA f vs b) (by simp [hsl]) fun u hu => ?_) fun u => by rw [truA_1 f vs g u hb1, if_neg (by omega), if_pos h]
      have := (head_facts (okV_split hu.1).1).1 hk.symm
      rw [hsl]
      exact this
  · -- is
    have ha : a.args = [] := List.eq_nil_of_length_eq_zero (by rw [h, show arityA 5 = 0 from rfl] at c1; omega)
    refine ⟨.fn 158 [.ptr (m.bx.length + 2) 0], [sysX f (.isl false vs.length (Val.cellsL vs)), g.cells, a.cells], ?_, cl_eq (cl_is (k := m.bx.length + 2) (a := a) (by simp)) fun u => by rw [truA_0 f vs g u ha, if_pos h]⟩
    rw [evCall_all C0 (C0_ext _ (by decide)) (by rw [C0_P]; exact Tryz.func121) rfl (by rw [C0_ann]; rfl) (by rw [C0_ann]; rfl) (by decide) (by simp [Tryz.f121])]
    simp [Tryz.f121, a121, reg121, draw121, dok121, h]
  obtain ⟨b, hb1⟩ := one_arg c1 (by omega) (by omega) (by omega)
  rw [if_neg (by omega)] at c3
  split at c3
  case isFalse => cases c3
  rename_i hk
  rw [if_neg (by omega), if_neg (by omega), hb1, okAL_one] at c3
  have hlt := part_lt hg h o1 hk
  have hps := part_shaped hg hlt
  have hp := ev_PPart g a.op hlt
  obtain ⟨clo, L, he, hc⟩ := (H b (by rw [hb1]; simp)).1 (partA g a.op) hps c3 ⟨m.bx ++ [sysX f (.isl false vs.length (Val.cellsL vs)), g.cells, a.cells], m.rw⟩
  obtain ⟨X, hX, x1, x2, x3, x4⟩ := after (bx := m.bx) (sysX f (.isl false vs.length (Val.cellsL vs))) g.cells a.cells L
  have hX' : m.bx ++ [sysX f (.isl false vs.length (Val.cellsL vs)), g.cells, a.cells] ++ L = X := by rw [hX, List.append_assoc]
  simp only [hX'] at he hc
  rw [Fm.cells_eq] at x4
  rw [Fun.cells_eq] at x3
  simp only [sysX_eq, Fun.cells_eq, List.cons_append, List.nil_append] at x2
  have x1a : m.bx.length < X.length := by omega
  have x1b : m.bx.length + 1 < X.length := by omega
  have y2 := (List.getElem?_eq_some_iff.1 x2).2
  have y3 := (List.getElem?_eq_some_iff.1 x3).2
  have y4 := (List.getElem?_eq_some_iff.1 x4).2
  have hc' := hc
  obtain ⟨q, caps, rfl, k1, k2⟩ := hc'
  have hz : (X ++ [[A.fn q caps]])[X.length]? = some [A.fn q caps] := by simp
  have hz4 : (X ++ [[A.fn q caps]])[m.bx.length + 2]? = some a.cells := by rw [List.getElem?_append_left x1, Fm.cells_eq]; exact x4
  have hcz := hc.more (.app X [[A.fn q caps]])
  have hpa : ∀ u i, (a.op = 6 → i = 0) ∧ (a.op = 7 → i = 1) ∧ (a.op = 8 → u = 0) ∧ (a.op = 9 → u = 1) → argF g u i = partA g a.op := fun u i => part_arg hg hk h o1
  have hin : ∀ u, Dv vs g u → ∀ i (hi : i < u.args.length), argF g u.num i = partA g a.op → Dv vs (partA g a.op) u.args[i] := fun u hu i hi e => ⟨by rw [← e]; exact (okV_split hu.1).2 i hi, by have := Val.nodes_arg (List.getElem_mem hi); have := hu.2; omega⟩
  have hbx : m.bx ++ ([sysX f (.isl false vs.length (Val.cellsL vs)), g.cells, a.cells] ++ L ++ [[A.fn q caps]]) = X ++ [[A.fn q caps]] := by rw [hX, List.append_assoc, List.append_assoc]; simp
  have hwx : ∀ u, Dv vs g u → wtd g.kind = true → u.nodes ≤ 1000000 ∧ u.ws.length = u.args.length ∧ (∀ x, x ∈ u.ws → 1 ≤ x) ∧ u.ws.sum ≤ 1048576 := fun u hu e => ⟨hu.2, (head_facts (okV_split hu.1).1).2.2.2.2 e⟩
  have hcase : a.op = 6 ∨ a.op = 7 ∨ a.op = 8 ∨ a.op = 9 ∨ a.op = 10 ∨ a.op = 11 ∨ a.op = 12 ∨ a.op = 13 := by omega
  rcases hcase with e | e | e | e | e | e | e | e
  · refine ⟨.fn 159 [.ptr X.length 0], [sysX f (.isl false vs.length (Val.cellsL vs)), g.cells, a.cells] ++ L ++ [[.fn q caps]], ?_, ?_⟩
    · rw [hbx]
      clear hX hX' hc k1 k2 hz hz4 hcz hpa hin hbx hwx
      rw [evCall_all C0 (C0_ext _ (by decide)) (by rw [C0_P]; exact Tryz.func121) rfl (by rw [C0_ann]; rfl) (by rw [C0_ann]; rfl) (by decide) (by simp [Tryz.f121])]
      simp [e, hb1, Fm.cellsL] at he hp y4
      simp [Tryz.f121, a121, reg121, draw121, dok121, e, hb1, Fm.cellsL, hp, he, at_lt, x1, x1a, x1b, y2, y3, y4]
    · rw [hbx]
      refine cl_eq (cl_first hz hcz fun u hu => ?_) fun u => by rw [truA_1 f vs g u hb1, if_neg (by omega), if_neg (by omega), if_pos (.inl e), e]; rfl
      have hk2 : g.kind = 2 := (by have := hk; rw [e, show kindO 6 = 2 from rfl] at this; exact this.symm)
      have := (head_facts (okV_split hu.1).1).2.1 hk2
      exact ⟨by omega, hin u hu 0 (by omega) (hpa _ _ (by omega))⟩
  · refine ⟨.fn 160 [.ptr X.length 0], [sysX f (.isl false vs.length (Val.cellsL vs)), g.cells, a.cells] ++ L ++ [[.fn q caps]], ?_, ?_⟩
    · rw [hbx]
      clear hX hX' hc k1 k2 hz hz4 hcz hpa hin hbx hwx
      rw [evCall_all C0 (C0_ext _ (by decide)) (by rw [C0_P]; exact Tryz.func121) rfl (by rw [C0_ann]; rfl) (by rw [C0_ann]; rfl) (by decide) (by simp [Tryz.f121])]
      simp [e, hb1, Fm.cellsL] at he hp y4
      simp [Tryz.f121, a121, reg121, draw121, dok121, e, hb1, Fm.cellsL, hp, he, at_lt, x1, x1a, x1b, y2, y3, y4]
    · rw [hbx]
      refine cl_eq (cl_second hz hcz fun u hu => ?_) fun u => by rw [truA_1 f vs g u hb1, if_neg (by omega), if_neg (by omega), if_pos (.inr e), e]; rfl
      have hk2 : g.kind = 2 := (by have := hk; rw [e, show kindO 7 = 2 from rfl] at this; exact this.symm)
      have := (head_facts (okV_split hu.1).1).2.1 hk2
      exact ⟨by omega, hin u hu 1 (by omega) (hpa _ _ (by omega))⟩
  · refine ⟨.fn 161 [.ptr (m.bx.length + 2) 0, .ptr X.length 0], [sysX f (.isl false vs.length (Val.cellsL vs)), g.cells, a.cells] ++ L ++ [[.fn q caps]], ?_, ?_⟩
    · rw [hbx]
      clear hX hX' hc k1 k2 hz hz4 hcz hpa hin hbx hwx
      rw [evCall_all C0 (C0_ext _ (by decide)) (by rw [C0_P]; exact Tryz.func121) rfl (by rw [C0_ann]; rfl) (by rw [C0_ann]; rfl) (by decide) (by simp [Tryz.f121])]
      simp [e, hb1, Fm.cellsL] at he hp y4
      simp [Tryz.f121, a121, reg121, draw121, dok121, e, hb1, Fm.cellsL, hp, he, at_lt, x1, x1a, x1b, y2, y3, y4]
    · rw [hbx]
      refine cl_eq (cl_side hz4 hz hcz (by omega) fun u hu hs => ?_) fun u => by rw [truA_1 f vs g u hb1, if_neg (by omega), if_neg (by omega), if_neg (by omega), if_pos (by omega)]
      have := (head_facts (okV_split hu.1).1).2.2.1 (by have := hk; rw [e, show kindO 8 = 3 from rfl] at this; exact this.symm)
      exact ⟨by omega, hin u hu 0 (by omega) (hpa _ _ (by omega))⟩
  · refine ⟨.fn 161 [.ptr (m.bx.length + 2) 0, .ptr X.length 0], [sysX f (.isl false vs.length (Val.cellsL vs)), g.cells, a.cells] ++ L ++ [[.fn q caps]], ?_, ?_⟩
    · rw [hbx]
      clear hX hX' hc k1 k2 hz hz4 hcz hpa hin hbx hwx
      rw [evCall_all C0 (C0_ext _ (by decide)) (by rw [C0_P]; exact Tryz.func121) rfl (by rw [C0_ann]; rfl) (by rw [C0_ann]; rfl) (by decide) (by simp [Tryz.f121])]
      simp [e, hb1, Fm.cellsL] at he hp y4
      simp [Tryz.f121, a121, reg121, draw121, dok121, e, hb1, Fm.cellsL, hp, he, at_lt, x1, x1a, x1b, y2, y3, y4]
    · rw [hbx]
      refine cl_eq (cl_side hz4 hz hcz (by omega) fun u hu hs => ?_) fun u => by rw [truA_1 f vs g u hb1, if_neg (by omega), if_neg (by omega), if_neg (by omega), if_pos (by omega)]
      have := (head_facts (okV_split hu.1).1).2.2.1 (by have := hk; rw [e, show kindO 9 = 3 from rfl] at this; exact this.symm)
      exact ⟨by omega, hin u hu 0 (by omega) (hpa _ _ (by omega))⟩
  · refine ⟨.fn 162 [.ptr X.length 0, .ptr (m.bx.length + 2) 0], [sysX f (.isl false vs.length (Val.cellsL vs)), g.cells, a.cells] ++ L ++ [[.fn q caps]], ?_, ?_⟩
    · rw [hbx]
      clear hX hX' hc k1 k2 hz hz4 hcz hpa hin hbx hwx
      rw [evCall_all C0 (C0_ext _ (by decide)) (by rw [C0_P]; exact Tryz.func121) rfl (by rw [C0_ann]; rfl) (by rw [C0_ann]; rfl) (by decide) (by simp [Tryz.f121])]
      simp [e, hb1, Fm.cellsL] at he hp y4
      simp [Tryz.f121, a121, reg121, draw121, dok121, e, hb1, Fm.cellsL, hp, he, at_lt, x1, x1a, x1b, y2, y3, y4]
    · rw [hbx]
      rw [numsA, if_pos (.inr e)] at c2
      simp only [Bool.and_eq_true, decide_eq_true_eq] at c2
      refine cl_eq (cl_input hz4 hz hcz (by omega) fun u hu => ?_) fun u => by rw [truA_1 f vs g u hb1, if_neg (by omega), if_neg (by omega), if_neg (by omega), if_neg (by omega), if_pos e]
      have := (head_facts (okV_split hu.1).1).2.2.2.1 (by have := hk; rw [e, show kindO 10 = 4 from rfl] at this; exact this.symm)
      exact ⟨by omega, hin u hu _ (by omega) (hpa _ _ (by omega))⟩
  · refine ⟨.fn 163 [.ptr X.length 0], [sysX f (.isl false vs.length (Val.cellsL vs)), g.cells, a.cells] ++ L ++ [[.fn q caps]], ?_, ?_⟩
    · rw [hbx]
      clear hX hX' hc k1 k2 hz hz4 hcz hpa hin hbx hwx
      rw [evCall_all C0 (C0_ext _ (by decide)) (by rw [C0_P]; exact Tryz.func121) rfl (by rw [C0_ann]; rfl) (by rw [C0_ann]; rfl) (by decide) (by simp [Tryz.f121])]
      simp [e, hb1, Fm.cellsL] at he hp y4
      simp [Tryz.f121, a121, reg121, draw121, dok121, e, hb1, Fm.cellsL, hp, he, at_lt, x1, x1a, x1b, y2, y3, y4]
    · rw [hbx]
      refine cl_eq (cl_some hz hcz fun u hu => ⟨hu.2, fun x hx => ?_⟩) fun u => by rw [truA_1 f vs g u hb1, if_neg (by omega), if_neg (by omega), if_neg (by omega), if_neg (by omega), if_neg (by omega), if_pos e]
      obtain ⟨i, hi, rfl⟩ := List.getElem_of_mem hx
      exact hin u hu i hi (hpa _ _ (by omega))
  · refine ⟨.fn 165 [.ptr X.length 0, .ptr (m.bx.length + 2) 0], [sysX f (.isl false vs.length (Val.cellsL vs)), g.cells, a.cells] ++ L ++ [[.fn q caps]], ?_, ?_⟩
    · rw [hbx]
      clear hX hX' hc k1 k2 hz hz4 hcz hpa hin hbx hwx
      rw [evCall_all C0 (C0_ext _ (by decide)) (by rw [C0_P]; exact Tryz.func121) rfl (by rw [C0_ann]; rfl) (by rw [C0_ann]; rfl) (by decide) (by simp [Tryz.f121])]
      simp [e, hb1, Fm.cellsL] at he hp y4
      simp [Tryz.f121, a121, reg121, draw121, dok121, e, hb1, Fm.cellsL, hp, he, at_lt, x1, x1a, x1b, y2, y3, y4]
    · rw [hbx]
      have hnm : (a.op = 12 → 1 ≤ a.num ∧ a.num ≤ 1048576) ∧ (a.op = 13 → 1 ≤ a.num ∧ a.num ≤ a.mun ∧ a.mun ≤ 1048576) := by
        rw [numsA, if_neg (by omega)] at c2
        refine ⟨fun e => ?_, fun e => ?_⟩
        · rw [if_pos e] at c2
          simp only [Bool.and_eq_true, decide_eq_true_eq] at c2
          omega
        · rw [if_neg (by omega), if_pos e] at c2
          simp only [Bool.and_eq_true, decide_eq_true_eq] at c2
          omega
      refine cl_eq (cl_many hz hz4 hcz (by omega) hnm fun u hu => ?_) fun u => by rw [truA_1 f vs g u hb1, if_neg (by omega), if_neg (by omega), if_neg (by omega), if_neg (by omega), if_neg (by omega), if_neg (by omega)]
      have hw := hwx u hu (by unfold wtd; have := show g.kind = 6 from (by have := hk; rw [e, show kindO 12 = 6 from rfl] at this; exact this.symm); simp [this])
      refine ⟨hw.1, hw.2.1, hw.2.2.1, hw.2.2.2, fun x hx => ?_⟩
      obtain ⟨i, hi, rfl⟩ := List.getElem_of_mem hx
      exact hin u hu i hi (hpa _ _ (by omega))
  · refine ⟨.fn 165 [.ptr X.length 0, .ptr (m.bx.length + 2) 0], [sysX f (.isl false vs.length (Val.cellsL vs)), g.cells, a.cells] ++ L ++ [[.fn q caps]], ?_, ?_⟩
    · rw [hbx]
      clear hX hX' hc k1 k2 hz hz4 hcz hpa hin hbx hwx
      rw [evCall_all C0 (C0_ext _ (by decide)) (by rw [C0_P]; exact Tryz.func121) rfl (by rw [C0_ann]; rfl) (by rw [C0_ann]; rfl) (by decide) (by simp [Tryz.f121])]
      simp [e, hb1, Fm.cellsL] at he hp y4
      simp [Tryz.f121, a121, reg121, draw121, dok121, e, hb1, Fm.cellsL, hp, he, at_lt, x1, x1a, x1b, y2, y3, y4]
    · rw [hbx]
      have hnm : (a.op = 12 → 1 ≤ a.num ∧ a.num ≤ 1048576) ∧ (a.op = 13 → 1 ≤ a.num ∧ a.num ≤ a.mun ∧ a.mun ≤ 1048576) := by
        rw [numsA, if_neg (by omega)] at c2
        refine ⟨fun e => ?_, fun e => ?_⟩
        · rw [if_pos e] at c2
          simp only [Bool.and_eq_true, decide_eq_true_eq] at c2
          omega
        · rw [if_neg (by omega), if_pos e] at c2
          simp only [Bool.and_eq_true, decide_eq_true_eq] at c2
          omega
      refine cl_eq (cl_many hz hz4 hcz (by omega) hnm fun u hu => ?_) fun u => by rw [truA_1 f vs g u hb1, if_neg (by omega), if_neg (by omega), if_neg (by omega), if_neg (by omega), if_neg (by omega), if_neg (by omega)]
      have hw := hwx u hu (by unfold wtd; have := show g.kind = 7 from (by have := hk; rw [e, show kindO 13 = 7 from rfl] at this; exact this.symm); simp [this])
      refine ⟨hw.1, hw.2.1, hw.2.2.1, hw.2.2.2, fun x hx => ?_⟩
      obtain ⟨i, hi, rfl⟩ := List.getElem_of_mem hx
      exact hin u hu i hi (hpa _ _ (by omega))
end
theorem endRound_X {l : List Nat} {X J : List (List A)} {R R0 R' : List Row} {tm : List (Nat × A)} (hl : l.all (fun t => closed X.length (R.length + R'.length) (lk t tm)) = true)
    (hr : R'.all (fun r => r.cs.all (closed X.length (R.length + R'.length))) = true) :
    endRound (some l) ⟨X, R ++ R0⟩ ⟨tm, ⟨X ++ J, R ++ R'⟩⟩ = some ⟨prune (some l) tm, ⟨X, R ++ R'⟩⟩ := by
  have := endRound_R (B := X) (L := []) (L' := J) (R := R) (R0 := R0) (R' := R') (tm := tm) (l := l) (Nat.zero_le _) (by simpa using hl) (by simp) (by simpa using hr)
  simpa using this
theorem loop_in3 {C : Cfg} {f nt : Nat} {σ : Type} (S : σ → St) (G : σ → Option (Res × Mem)) (meas : σ → Nat) (I : σ → Prop) (x : σ) {b : Code} {P : Program} {kp : Bool} {rs : List ResultVar} {m0 : Mem} {id id0 : Nat} {K : St → Option (Ex × St)} {s0 : St} {r : Option (Res × Mem)}
    (hs : s0 = S x) (hr : G x = r) (hI : I x) (hp : ∀ x, prune (C.ann.loop f (headId b)) (S x).tm = (S x).tm)
    (h : ∀ x, I x → (∀ y s r, meas y < meas x → I y → s = S y → G y = r → finish P kp rs m0 (andThen (ofBlock id0 (ofBlock id (evCode C f nt (.loop b) s))) K) = r) → finish P kp rs m0 (andThen (ofBlock id0 (ofBlock id (andThen (round C f nt b (S x)) (evCode C f nt (.loop b))))) K) = G x) :
    finish P kp rs m0 (andThen (ofBlock id0 (ofBlock id (evCode C f nt (.loop b) s0))) K) = r := by
  subst hs hr
  exact loop_fin C f nt (fun z => finish P kp rs m0 (andThen (ofBlock id0 (ofBlock id z)) K)) S G meas I hp (fun x hx hr => h x hx fun y s r h1 h2 h3 h4 => by subst h3 h4; exact hr y h1 h2) x hI
section
variable (f : Fun) (vs : List Val)
set_option maxHeartbeats 8000000 in
theorem ev_states1 (a : Fm) (hb : a.nodes ≤ 1000000) (H : ∀ b, b ∈ a.args → VlOk f vs b ∧ SlOk f vs b) (hn : vs.length ≤ 1000000) (hf : shapedF f = true) (hvs : ∀ v, v ∈ vs → okV exL vs.length v f = true) (hvn : ∀ v, v ∈ vs → v.nodes ≤ 1000000) : SlOk f vs a := by
  intro hok m
  rw [okA_state] at hok
  simp only [Bool.and_eq_true, decide_eq_true_eq] at hok
  obtain ⟨⟨c1, c2⟩, c3⟩ := hok
  obtain ⟨o0, o1⟩ := arityA_op (op := a.op) (by omega)
  have n1 : (vs.length : Int) ≤ 70368744177664 := by omega
  by_cases h3 : a.op = 3
  · obtain ⟨b, hb1⟩ := one_arg c1 (by omega) (by omega) (by omega)
    rw [if_pos h3, hb1, okAL_one] at c3
    rw [setA_1 f vs hb1, if_pos h3]
    obtain ⟨clo, L, he, hc⟩ := (H b (by rw [hb1]; simp)).1 f hf c3 ⟨m.bx ++ [sysX f (.isl false vs.length (Val.cellsL vs)), a.cells], m.rw ++ [⟨4, boolsL (List.replicate vs.length false)⟩]⟩
    obtain ⟨X, hX⟩ : ∃ X, X = m.bx ++ ([sysX f (.isl false vs.length (Val.cellsL vs)), a.cells] ++ L) := ⟨_, rfl⟩
    have hX' : m.bx ++ [sysX f (.isl false vs.length (Val.cellsL vs)), a.cells] ++ L = X := by rw [hX, List.append_assoc]
    have x1 : m.bx.length + 1 < X.length := by rw [hX]; simp
    have x2 : X[m.bx.length]? = some (sysX f (.isl false vs.length (Val.cellsL vs))) := by rw [hX]; simp
    have x1a : m.bx.length < X.length := by omega
    simp only [hX'] at he hc
    simp only [sysX_eq, Fun.cells_eq, List.cons_append, List.nil_append] at x2
    have y2 := (List.getElem?_eq_some_iff.1 x2).2
    obtain ⟨q, caps, rfl, k1, k2⟩ := hc
    have hcc := caps_closed (nr := m.rw.length + 1) k1 (Nat.le_refl _)
    rw [evCall_body C0 (C0_ext _ (by decide)) (by rw [C0_P]; exact Tryz.func87) rfl (by rw [C0_ann]; rfl) (by rw [C0_ann]; rfl) (by decide) (by simp [Tryz.f87])]
    simp [h3, hb1, Fm.cellsL] at he
    simp [Tryz.f87, a87, reg87, loop87, draw87, dok87, h3, n1, boolsL_rep, hb1, Fm.cellsL, he, at_lt, x1, x1a, y2]
    refine loop_in3 (fun x : Nat × List Bool => ⟨[(5, .sl (m.rw.length + 0) vs.length 0 vs.length), (12, .fn q caps), (97, .isl false vs.length (Val.cellsL vs)), (98, .int .i64 vs.length), (99, .int .i64 x.1)], ⟨X, m.rw ++ [⟨4, boolsL x.2⟩]⟩⟩)
      (fun x => some (.ret (.isl false vs.length (boolsL (vs.map fun v => truA f vs f b v))), m)) (fun x => vs.length - x.1) (fun x => x.1 ≤ vs.length ∧ x.2.length = vs.length ∧ ∀ j (hj : j < vs.length) (hj2 : j < x.2.length), j < x.1 → x.2[j] = truA f vs f b vs[j]) (0, List.replicate vs.length false) ?_ ?_ ?_ ?_ ?_
    · simp [h3, hb1, Fm.cellsL, boolsL_rep]
    · simp
    · exact ⟨by simp, by simp, fun j _ _ h => by omega⟩
    · intro x; simp [Tryz.f87, a87, reg87, loop87, draw87, dok87]
    · rintro ⟨i, bs⟩ ⟨hi, hbl, hbs⟩ hrec
      simp only at hi hbl hbs
      by_cases hlt : i < vs.length
      · have w2 : IntKind.i64.wrap (i + 1) = i + 1 := wrap_id _ (by omega)
        have hib : i < bs.length := by omega
        have h1 : i + 1 ≤ vs.length := by omega
        have hset := boolsL_set hib
        have hset' := hset (truA f vs f b vs[i])
        have h3' : (i + 1) * 3 ≤ vs.length * 3 := by omega
        have hmem := List.getElem_mem hlt
        have he' := k2 vs[i] ⟨hvs _ hmem, hvn _ hmem⟩ ⟨X ++ [vs[i].cells], m.rw ++ [⟨4, boolsL bs⟩]⟩ (.app _ _)
        simp at he'
        simp [round, Tryz.f87, a87, reg87, loop87, draw87, dok87, hlt, w2, h1, hbl, hib, h3', hb1, Fm.cellsL, he', at_lt, hcc, endRound_X, hset', endRound_R]
        refine hrec (i + 1, bs.set i (truA f vs f b vs[i])) _ _ ?_ ?_ ?_ ?_
        · simp; omega
        · refine ⟨by simp; omega, by simpa using hbl, fun j hj hj2 hji => ?_⟩
          simp only at hji hj2 ⊢
          rw [List.getElem_set]
          split
          · rename_i e; subst e; rfl
          · exact hbs j hj (by simpa using hj2) (by omega)
        · simp [h3, hb1, Fm.cellsL, boolsL_rep]
        · simp
      · clear hrec
        have hil : i = vs.length := by omega
        subst hil
        have hfin : bs = vs.map fun v => truA f vs f b v := by
          apply List.ext_getElem
          · simp [hbl, List.length_map]
          · intro j j1 j2
            rw [hbs j (by omega) j1 (by omega)]
            simp [List.getElem_map]
        rw [← hfin, hX]
        simp [round, Tryz.f87, a87, reg87, loop87, draw87, dok87, hlt, hbl, take_boolsL]
  rw [evCall_body C0 (C0_ext _ (by decide)) (by rw [C0_P]; exact Tryz.func87) rfl (by rw [C0_ann]; rfl) (by rw [C0_ann]; rfl) (by decide) (by simp [Tryz.f87])]
  rw [if_neg h3] at c3
  have hop : a.op = 0 ∨ a.op = 1 ∨ a.op = 2 := by
    simp only [Bool.and_eq_true, Bool.or_eq_true, decide_eq_true_eq] at c3
    omega
  have c3' : okAL f none a.args = true := by
    rw [Bool.and_eq_true] at c3
    exact c3.1
  rcases hop with h | h | h
  · have ha : a.args = [] := List.eq_nil_of_length_eq_zero (by rw [h, show arityA 0 = 0 from rfl] at c1; omega)
    rw [setA_0 f vs ha]
    simp [Tryz.f87, a87, reg87, loop87, draw87, dok87, h, n1, boolsL_rep, ha]
    refine loop_in3 (fun x : Nat × List Bool => ⟨[(5, .sl (m.rw.length + 0) vs.length 0 vs.length), (25, .int .i64 vs.length), (26, .int .i64 x.1)], ⟨m.bx ++ [sysX f (.isl false vs.length (Val.cellsL vs)), a.cells], m.rw ++ [⟨4, boolsL x.2⟩]⟩⟩)
      (fun x => some (.ret (.isl false vs.length (boolsL (List.replicate vs.length true))), m)) (fun x => vs.length - x.1) (fun x => x.1 ≤ vs.length ∧ x.2.length = vs.length ∧ ∀ j (hj : j < vs.length) (hj2 : j < x.2.length), j < x.1 → x.2[j] = true) (0, List.replicate vs.length false) ?_ ?_ ?_ ?_ ?_
    · simp [h, ha, boolsL_rep]
    · simp
    · exact ⟨by simp, by simp, fun j _ _ h => by omega⟩
    · intro x; simp [Tryz.f87, a87, reg87, loop87, draw87, dok87]
    · rintro ⟨i, bs⟩ ⟨hi, hbl, hbs⟩ hrec
      simp only at hi hbl hbs
      by_cases hlt : i < vs.length
      · have w2 : IntKind.i64.wrap (i + 1) = i + 1 := wrap_id _ (by omega)
        have hib : i < bs.length := by omega
        have h1 : i + 1 ≤ vs.length := by omega
        have hset := boolsL_set hib
        have hset' := hset (true)
        simp [round, Tryz.f87, a87, reg87, loop87, draw87, dok87, hlt, w2, h1, hbl, hib, h, hset', endRound_R]
        refine hrec (i + 1, bs.set i (true)) _ _ ?_ ?_ ?_ ?_
        · simp; omega
        · refine ⟨by simp; omega, by simpa using hbl, fun j hj hj2 hji => ?_⟩
          simp only at hji hj2 ⊢
          rw [List.getElem_set]
          split
          · rename_i e; subst e; rfl
          · exact hbs j hj (by simpa using hj2) (by omega)
        · simp [h, ha, boolsL_rep]
        · simp
      · clear hrec
        have hil : i = vs.length := by omega
        subst hil
        have hfin : bs = List.replicate vs.length true := by
          apply List.ext_getElem
          · simp [hbl, List.length_replicate]
          · intro j j1 j2
            rw [hbs j (by omega) j1 (by omega)]
            simp [List.getElem_replicate]
        rw [← hfin]
        simp [round, Tryz.f87, a87, reg87, loop87, draw87, dok87, hlt, hbl, take_boolsL]
  · obtain ⟨b, hb1⟩ := one_arg c1 (by omega) (by omega) (by omega)
    rw [hb1, okAL_one] at c3'
    have he := (H b (by rw [hb1]; simp)).2 c3'
    have hsl := setA_len f vs b.nodes b (Nat.le_refl _)
    rw [setA_1 f vs hb1, if_neg h3]
    simp at he
    generalize setA f vs b = S at he hsl
    simp [Tryz.f87, a87, reg87, loop87, draw87, dok87, h, n1, boolsL_rep, hb1, Fm.cellsL, he]
    refine loop_in3 (fun x : Nat × List Bool => ⟨[(5, .sl (m.rw.length + 0) vs.length 0 vs.length), (40, .isl false vs.length (boolsL S)), (41, .int .i64 vs.length), (42, .int .i64 x.1)], ⟨m.bx ++ [sysX f (.isl false vs.length (Val.cellsL vs)), a.cells], m.rw ++ [⟨4, boolsL x.2⟩]⟩⟩)
      (fun x => some (.ret (.isl false vs.length (boolsL (S.map fun x => !x))), m)) (fun x => vs.length - x.1) (fun x => x.1 ≤ vs.length ∧ x.2.length = vs.length ∧ ∀ j (hj : j < vs.length) (hj2 : j < x.2.length), j < x.1 → x.2[j] = !S[j]'(by omega)) (0, List.replicate vs.length false) ?_ ?_ ?_ ?_ ?_
    · simp [h, hb1, Fm.cellsL, boolsL_rep]
    · simp
    · exact ⟨by simp, by simp, fun j _ _ h => by omega⟩
    · intro x; simp [Tryz.f87, a87, reg87, loop87, draw87, dok87]
    · rintro ⟨i, bs⟩ ⟨hi, hbl, hbs⟩ hrec
      simp only at hi hbl hbs
      by_cases hlt : i < vs.length
      · have w2 : IntKind.i64.wrap (i + 1) = i + 1 := wrap_id _ (by omega)
        have hib : i < bs.length := by omega
        have h1 : i + 1 ≤ vs.length := by omega
        have hset := boolsL_set hib
        have hset' := hset (!S[i]'(by omega))
        have hiS : i < S.length := by omega
        have hatS := boolsL_at hiS
        have hS1 : i + 1 ≤ S.length := by omega
        simp [round, Tryz.f87, a87, reg87, loop87, draw87, dok87, hlt, w2, h1, hbl, hib, h, hatS, hS1, hset', endRound_R]
        refine hrec (i + 1, bs.set i (!S[i]'(by omega))) _ _ ?_ ?_ ?_ ?_
        · simp; omega
        · refine ⟨by simp; omega, by simpa using hbl, fun j hj hj2 hji => ?_⟩
          simp only at hji hj2 ⊢
          rw [List.getElem_set]
          split
          · rename_i e; subst e; rfl
          · exact hbs j hj (by simpa using hj2) (by omega)
        · simp [h, hb1, Fm.cellsL, boolsL_rep]
        · simp
      · clear hrec
        have hil : i = vs.length := by omega
        subst hil
        have hfin : bs = S.map fun x => !x := by
          apply List.ext_getElem
          · simp [hbl, List.length_map, hsl]
          · intro j j1 j2
            rw [hbs j (by omega) j1 (by omega)]
            simp [List.getElem_map]
        rw [← hfin]
        simp [round, Tryz.f87, a87, reg87, loop87, draw87, dok87, hlt, hbl, take_boolsL]
  · have hl2 : a.args.length = 2 := by rw [h, show arityA 2 = 2 from rfl] at c1; omega
    obtain ⟨b, c, hb1⟩ : ∃ b c, a.args = [b, c] := by
      match a.args, hl2 with
      | [b, c], _ => exact ⟨b, c, rfl⟩
    rw [hb1, okAL, okAL, okAL, Bool.and_true, Bool.and_eq_true] at c3'
    have he := (H b (by rw [hb1]; simp)).2 c3'.1
    have he2 := (H c (by rw [hb1]; simp)).2 c3'.2
    have hsl := setA_len f vs b.nodes b (Nat.le_refl _)
    have hsl2 := setA_len f vs c.nodes c (Nat.le_refl _)
    rw [setA_2 f vs hb1]
    simp at he he2
    generalize setA f vs b = S at he hsl
    generalize setA f vs c = T at he2 hsl2
    simp [Tryz.f87, a87, reg87, loop87, draw87, dok87, h, n1, boolsL_rep, hb1, Fm.cellsL, he, he2]
    refine loop_in3 (fun x : Nat × List Bool => ⟨[(5, .sl (m.rw.length + 0) vs.length 0 vs.length), (9, .isl false vs.length (boolsL T)), (66, .isl false vs.length (boolsL S)), (67, .int .i64 vs.length), (68, .int .i64 x.1)], ⟨m.bx ++ [sysX f (.isl false vs.length (Val.cellsL vs)), a.cells], m.rw ++ [⟨4, boolsL x.2⟩]⟩⟩)
      (fun x => some (.ret (.isl false vs.length (boolsL (List.zipWith (fun x y => x && y) S T))), m)) (fun x => vs.length - x.1) (fun x => x.1 ≤ vs.length ∧ x.2.length = vs.length ∧ ∀ j (hj : j < vs.length) (hj2 : j < x.2.length), j < x.1 → x.2[j] = (S[j]'(by omega) && T[j]'(by omega))) (0, List.replicate vs.length false) ?_ ?_ ?_ ?_ ?_
    · simp [h, hb1, Fm.cellsL, boolsL_rep]
    · simp
    · exact ⟨by simp, by simp, fun j _ _ h => by omega⟩
    · intro x; simp [Tryz.f87, a87, reg87, loop87, draw87, dok87]
    · rintro ⟨i, bs⟩ ⟨hi, hbl, hbs⟩ hrec
      simp only at hi hbl hbs
      by_cases hlt : i < vs.length
      · have w2 : IntKind.i64.wrap (i + 1) = i + 1 := wrap_id _ (by omega)
        have hib : i < bs.length := by omega
        have h1 : i + 1 ≤ vs.length := by omega
        have hset := boolsL_set hib
        have hiS : i < S.length := by omega
        have hatS := boolsL_at hiS
        have hS1 : i + 1 ≤ S.length := by omega
        have hiT : i < T.length := by omega
        have hatT := boolsL_at hiT
        have hT1 : i + 1 ≤ T.length := by omega
        cases hSi : S[i] with
        | false =>
          have hset' := hset false
          simp [round, Tryz.f87, a87, reg87, loop87, draw87, dok87, hlt, w2, h1, hbl, hib, h, hatS, hatT, hS1, hT1, hSi, hset', endRound_R]
          refine hrec (i + 1, bs.set i false) _ _ ?_ ?_ ?_ ?_
          · simp; omega
          · refine ⟨by simp; omega, by simpa using hbl, fun j hj hj2 hji => ?_⟩
            simp only at hji hj2 ⊢
            rw [List.getElem_set]
            split
            · rename_i e; subst e; simp [hSi]
            · exact hbs j hj (by simpa using hj2) (by omega)
          · simp [h, hb1, Fm.cellsL, boolsL_rep]
          · simp
        | true =>
          have hset' := hset T[i]
          simp [round, Tryz.f87, a87, reg87, loop87, draw87, dok87, hlt, w2, h1, hbl, hib, h, hatS, hatT, hS1, hT1, hSi, hset', endRound_R]
          refine hrec (i + 1, bs.set i T[i]) _ _ ?_ ?_ ?_ ?_
          · simp; omega
          · refine ⟨by simp; omega, by simpa using hbl, fun j hj hj2 hji => ?_⟩
            simp only at hji hj2 ⊢
            rw [List.getElem_set]
            split
            · rename_i e; subst e; simp [hSi]
            · exact hbs j hj (by simpa using hj2) (by omega)
          · simp [h, hb1, Fm.cellsL, boolsL_rep]
          · simp
      · clear hrec
        have hil : i = vs.length := by omega
        subst hil
        have hfin : bs = List.zipWith (fun x y => x && y) S T := by
          apply List.ext_getElem
          · simp [hbl, List.length_zipWith, hsl, hsl2]
          · intro j j1 j2
            rw [hbs j (by omega) j1 (by omega)]
            simp [List.getElem_zipWith]
        rw [← hfin]
        simp [round, Tryz.f87, a87, reg87, loop87, draw87, dok87, hlt, hbl, take_boolsL]
theorem ev_VS (hn : vs.length ≤ 1000000) (hf : shapedF f = true) (hvs : ∀ v, v ∈ vs → okV exL vs.length v f = true) (hvn : ∀ v, v ∈ vs → v.nodes ≤ 1000000) (N : Nat) : ∀ a : Fm, a.nodes ≤ N → a.nodes ≤ 1000000 → VlOk f vs a ∧ SlOk f vs a := by
  induction N with
  | zero => intro a hN; have := a.nodes_pos; omega
  | succ N ih =>
  intro a hN hb
  have H : ∀ b, b ∈ a.args → VlOk f vs b ∧ SlOk f vs b := fun b hm => ih b (by have := Fm.nodes_arg hm; omega) (by have := Fm.nodes_arg hm; omega)
  exact ⟨ev_values1 f vs a hb H hn, ev_states1 f vs a hb H hn hf hvs hvn⟩
end
def idxT : List Bool → Nat → List Int
  | [], _ => []
  | b :: r, i => if b then (i : Int) :: idxT r (i + 1) else idxT r (i + 1)
theorem idxT_drop {S : List Bool} {i : Nat} (h : i < S.length) : idxT (S.drop i) i = if S[i] then (i : Int) :: idxT (S.drop (i + 1)) (i + 1) else idxT (S.drop (i + 1)) (i + 1) := by
  rw [List.drop_eq_getElem_cons h, idxT]
theorem idxT_mem : ∀ (S : List Bool) (i : Nat) (x : Int), x ∈ idxT S i ↔ ∃ k : Nat, x = (i + k : Nat) ∧ S[k]? = some true
  | [], i, x => by simp [idxT]
  | b :: r, i, x => by
    rw [idxT]
    have ih := idxT_mem r (i + 1) x
    constructor
    · intro h
      cases b
      · rw [if_neg (by simp)] at h
        obtain ⟨k, hk, hk2⟩ := ih.1 h
        exact ⟨k + 1, by omega, by simpa using hk2⟩
      · rw [if_pos rfl] at h
        rcases List.mem_cons.1 h with h | h
        · exact ⟨0, by omega, rfl⟩
        · obtain ⟨k, hk, hk2⟩ := ih.1 h
          exact ⟨k + 1, by omega, by simpa using hk2⟩
    · rintro ⟨k, hk, hk2⟩
      cases k with
      | zero =>
        simp at hk2
        subst hk2
        rw [if_pos rfl]
        exact List.mem_cons.2 (.inl (by omega))
      | succ k =>
        have : x ∈ idxT r (i + 1) := ih.2 ⟨k, by omega, by simpa using hk2⟩
        split
        · exact List.mem_cons.2 (.inr this)
        · exact this
theorem idxT_len : ∀ (S : List Bool) (i : Nat), (idxT S i).length ≤ S.length
  | [], i => by simp [idxT]
  | b :: r, i => by
    have := idxT_len r (i + 1)
    rw [idxT]
    split
    · simp; omega
    · simp; omega
theorem idxT_at {S : List Bool} (x : Nat) : ((x : Int) ∈ idxT S 0) ↔ S.getD x false = true := by
  rw [idxT_mem, List.getD_eq_getElem?_getD]
  constructor
  · rintro ⟨k, hk, hk2⟩
    obtain rfl : x = k := by omega
    rw [hk2]; rfl
  · intro h
    refine ⟨x, by omega, ?_⟩
    cases hx : S[x]? with
    | none => rw [hx] at h; cases h
    | some b => rw [hx] at h; simp at h; rw [h]
def fineE (f : Fun) (vs : List Val) (a : Fm) : Int := if okS f vs then (if isFm f a then 0 else 70) else 30
section
variable (f : Fun) (vs : List Val) (a : Fm)
theorem ev_fineA (hf : f.nodes ≤ 1000000) (hb : Val.nodesL vs ≤ 1000000) (hs : ∀ v ∈ vs, slimV v) (ha : a.nodes ≤ 1000000000) (m : Mem) : evCall C0 49 [.agg (sysX f (.isl false vs.length (Val.cellsL vs))), .agg a.cells] m = some (.ret (.int .i64 (fineE f vs a)), m) := by
  rw [evCall_body C0 (C0_ext _ (by decide)) (by rw [C0_P]; exact Tryz.func49) rfl (by rw [C0_ann]; rfl) (by rw [C0_ann]; rfl) (by decide) (by simp [Tryz.f49])]
  have h1 := ev_SValid f vs hf hb hs
  simp at h1
  unfold fineE
  cases c1 : okS f vs
  · simp [Tryz.f49, a49, reg49, h1, c1]
  have hsh : shapedF f = true := by
    unfold okS at c1
    simp only [Bool.and_eq_true] at c1
    exact okF_shapedS c1.1.1.1
  have h2 := ev_ValidA f a hsh ha
  simp at h2
  cases c2 : isFm f a <;> simp [Tryz.f49, a49, reg49, h1, h2, c1, c2]
theorem ev_LStates (hS : SlOk f vs a) (hok : okA f none a = true) (m : Mem) : evCall C0 50 [.agg (sysX f (.isl false vs.length (Val.cellsL vs))), .agg a.cells] m = some (.ret (.isl false vs.length (boolsL (setA f vs a))), m) := by
  rw [evCall_body C0 (C0_ext _ (by decide)) (by rw [C0_P]; exact Tryz.func50) rfl (by rw [C0_ann]; rfl) (by rw [C0_ann]; rfl) (by decide) (by simp [Tryz.f50])]
  have h1 := hS hok
  have hl := setA_len f vs a.nodes a (Nat.le_refl _)
  simp at h1
  simp [Tryz.f50, a50, reg50, h1, hl]
set_option maxHeartbeats 4000000 in
theorem ev_LTrue (hf : f.nodes ≤ 1000000) (hb : Val.nodesL vs ≤ 1000000) (hs : ∀ v ∈ vs, slimV v) (ha : a.nodes ≤ 1000000000) (hS : fineE f vs a = 0 → SlOk f vs a ∧ okA f none a = true) (m : Mem) :
    evCall C0 23 [.agg (sysX f (.isl false vs.length (Val.cellsL vs))), .agg a.cells] m = some (.ret (.tup [.isl false (if fineE f vs a = 0 then idxT (setA f vs a) 0 else []).length (ints (if fineE f vs a = 0 then idxT (setA f vs a) 0 else [])), .int .i64 (fineE f vs a)]), m) := by
  rw [evCall_body C0 (C0_ext _ (by decide)) (by rw [C0_P]; exact Tryz.func23) rfl (by rw [C0_ann]; rfl) (by rw [C0_ann]; rfl) (by decide) (by simp [Tryz.f23])]
  have h1 := ev_fineA f vs a hf hb hs ha
  have hvl := Val.length_nodesL vs
  simp at h1
  by_cases c : fineE f vs a = 0
  case neg => simp [Tryz.f23, a23, reg23, loop23, h1, c]
  obtain ⟨s1, s2⟩ := hS c
  have h2 := ev_LStates f vs a s1 s2
  have hl := setA_len f vs a.nodes a (Nat.le_refl _)
  simp at h2
  rw [if_pos c]
  generalize setA f vs a = S at h2 hl
  simp [Tryz.f23, a23, reg23, loop23, h1, c, h2]
  refine loop_in (fun x : Nat × List Int => ⟨[(7, wA m.rw.length x.2), (18, .isl false vs.length (boolsL S)), (19, .int .i64 vs.length), (20, .int .i64 x.1)], ⟨m.bx ++ [sysX f (.isl false vs.length (Val.cellsL vs)), a.cells], m.rw ++ wR x.2⟩⟩)
    (fun x => some (.ret (.tup [.isl false (x.2 ++ idxT (S.drop x.1) x.1).length (ints (x.2 ++ idxT (S.drop x.1) x.1)), .int .i64 0]), m)) (fun x => vs.length - x.1) (fun x => x.1 ≤ vs.length ∧ x.2.length ≤ x.1) (0, []) ?_ ?_ ?_ ?_ ?_
  · simp [wA, wR, ints]
  · simp
  · simp
  · intro x; simp [Tryz.f23, a23, reg23, loop23]
  · rintro ⟨i, l⟩ ⟨hi, hll⟩ hrec
    simp only at hi hll
    by_cases hlt : i < vs.length
    · have w2 : IntKind.i64.wrap (i + 1) = i + 1 := wrap_id _ (by omega)
      have hiS : i < S.length := by omega
      have hatS := boolsL_at hiS
      have hS1 : i + 1 ≤ S.length := by omega
      rw [idxT_drop hiS]
      cases hSi : S[i] with
      | false =>
        cases l with
        | nil =>
          simp [round, Tryz.f23, a23, reg23, loop23, hlt, w2, hatS, hS1, hSi, wA, wR]
          refine hrec (i + 1, []) _ _ ?_ ?_ ?_ ?_
          · simp; omega
          · simp; omega
          · simp [wA, wR, ints]
          · simp
        | cons y r =>
          simp [round, Tryz.f23, a23, reg23, loop23, hlt, w2, hatS, hS1, hSi, wA, wR, endRound_R]
          refine hrec (i + 1, y :: r) _ _ ?_ ?_ ?_ ?_
          · simp; omega
          · simp at hll ⊢; omega
          · simp [wA, wR, ints]
          · simp
      | true =>
        cases l with
        | nil =>
          simp [round, Tryz.f23, a23, reg23, loop23, hlt, w2, hatS, hS1, hSi, wA, wR, endRound_R0]
          refine hrec (i + 1, [(i : Int)]) _ _ ?_ ?_ ?_ ?_
          · simp; omega
          · simp; omega
          · simp [wA, wR, ints]
          · simp
        | cons y r =>
          have hr1 : (r.length + 1 + 1) * 8 ≤ 70368744177664 := by simp at hll; omega
          have hr2 : r.length + 1 + 1 ≤ 70368744177664 := by omega
          simp [round, Tryz.f23, a23, reg23, loop23, hlt, w2, hatS, hS1, hSi, wA, wR, hr1, hr2, endRound_R]
          refine hrec (i + 1, (y :: r) ++ [(i : Int)]) _ _ ?_ ?_ ?_ ?_
          · simp; omega
          · simp at hll ⊢; omega
          · simp [wA, wR, ints]
          · simp
    · clear hrec
      rw [List.drop_eq_nil_of_le (by omega)]
      cases l with
      | nil => simp [round, Tryz.f23, a23, reg23, loop23, hlt, idxT, wA, wR]
      | cons y r =>
        have ht : (ints (y :: r)).take (r.length + 1) = ints (y :: r) := List.take_of_length_le (by simp)
        simp [round, Tryz.f23, a23, reg23, loop23, hlt, idxT, wA, wR]
        try simpa using ht
end
def fewS (f : Fun) (vs : List Val) (most : Int) : Bool := decide ((vs.length : Int) ≤ most) && decide (0 < leftF f (most + 1)) && (vs.all fun v => fewV v most) && decide ((Val.nodesL vs : Int) ≤ most)
theorem fewL_drop {vs : List Val} {most : Int} {i : Nat} (h : i < vs.length) : ((vs.drop i).all fun v => fewV v most) = (fewV vs[i] most && (vs.drop (i + 1)).all fun v => fewV v most) := by
  rw [List.drop_eq_getElem_cons h, List.all_cons]
set_option maxHeartbeats 1000000 in
theorem ev_SFew (f : Fun) (vs : List Val) (most : Int) (h0 : 0 ≤ most) (h1 : most ≤ 1000000) (m : Mem) : evCall C0 48 [.agg (sysX f (.isl false vs.length (Val.cellsL vs))), .int .i64 most] m = some (.ret (.bool (fewS f vs most)), m) := by
  rw [evCall_body C0 (C0_ext _ (by decide)) (by rw [C0_P]; exact Tryz.func48) rfl (by rw [C0_ann]; rfl) (by rw [C0_ann]; rfl) (by decide) (by simp [Tryz.f48])]
  have hfe := ev_Few f most
  simp at hfe
  have hfe' := fun m => hfe m (by omega) (by omega)
  unfold fewS
  by_cases hl : (vs.length : Int) ≤ most
  case neg =>
    have hl' : most < vs.length := by omega
    simp [Tryz.f48, a48, reg48, loop48, hl, hl']
  have hl' : ¬ most < vs.length := by omega
  by_cases hc : 0 < leftF f (most + 1)
  case neg => simp [Tryz.f48, a48, reg48, loop48, hl, hl', hfe', hc]
  simp [Tryz.f48, a48, reg48, loop48, hl, hl', hfe', hc]
  refine loop_in (fun x : Nat × Nat => ⟨[(1, .int .i64 most), (5, .int .i64 x.2), (21, .isl false vs.length (Val.cellsL vs)), (22, .int .i64 vs.length), (23, .int .i64 x.1)], ⟨m.bx ++ [sysX f (.isl false vs.length (Val.cellsL vs))], m.rw⟩⟩)
    (fun x => some (.ret (.bool (((vs.drop x.1).all fun v => fewV v most) && decide ((x.2 + Val.nodesL (vs.drop x.1) : Nat) ≤ most))), m)) (fun x => vs.length - x.1) (fun x => x.1 ≤ vs.length ∧ (x.2 : Int) ≤ most) (0, 0) ?_ ?_ ?_ ?_ ?_
  · simp
  · simp
  · simp; omega
  · intro x; simp [Tryz.f48, a48, reg48, loop48]
  · rintro ⟨i, a⟩ hI hrec
    simp only at hI
    obtain ⟨hi, ha⟩ := hI
    by_cases hlt : i < vs.length
    · have w2 : IntKind.i64.wrap (i + 1) = i + 1 := wrap_id _ (by omega)
      have he := ev_FewV vs[i] most
      simp at he
      have he' := fun m => he m (by omega) (by omega)
      have h3 : (i + 1) * 3 ≤ vs.length * 3 := by omega
      rw [fewL_drop hlt, Val.nodesL_drop hlt]
      cases hcv : fewV vs[i] most
      · simp [round, Tryz.f48, a48, reg48, loop48, hlt, w2, h3, he', hcv]
      · have hnd := fewV_nodes h0 hcv
        have hn := ev_RNodes vs[i].nodes vs[i] (Nat.le_refl _) (by omega)
        simp at hn
        have w3 : IntKind.i64.wrap (a + vs[i].nodes) = a + vs[i].nodes := wrap_id _ (by omega)
        by_cases hover : most < (a : Int) + vs[i].nodes
        · have hno : ¬ ((a : Int) + (vs[i].nodes + Val.nodesL (vs.drop (i + 1)))) ≤ most := by omega
          simp [round, Tryz.f48, a48, reg48, loop48, hlt, w2, w3, h3, he', hn, hcv, hover, hno]
        · simp [round, Tryz.f48, a48, reg48, loop48, hlt, w2, w3, h3, he', hn, hcv, hover]
          refine hrec (i + 1, a + vs[i].nodes) _ _ ?_ ?_ ?_ ?_
          · simp; omega
          · simp; omega
          · simp
          · simp [Int.add_assoc]
    · clear hrec
      simp [round, Tryz.f48, a48, reg48, loop48, hlt]
      rw [List.drop_eq_nil_of_le (by omega), Val.nodesL]
      simp
      omega
end AE
end Go.Proofs.YtejfmdoejokcaaaGreatDoor
