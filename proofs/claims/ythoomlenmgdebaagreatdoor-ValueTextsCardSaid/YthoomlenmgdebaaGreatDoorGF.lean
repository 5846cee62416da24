/- Values: the check; evaluated. -/
import Derived.Test.YthoomlenmgdebaaGreatDoorGE
set_option linter.unusedVariables false
set_option linter.unusedSimpArgs false
namespace Go.Proofs.YthoomlenmgdebaaGreatDoor
namespace AE
open Go
def exOf (lo : Bool) : Fun → List Val → List Int → Bool := if lo then exL else exS
theorem chkV_few {ex : Fun → List Val → List Int → Bool} {n : Int} {v : Val} {f : Fun} {q : Int} (h : q - 1 < 0) : chkV ex n v f q = (false, q - 1) := by rw [chkV_eq, if_pos (.inl h)]
theorem chkV_bad {ex : Fun → List Val → List Int → Bool} {n : Int} {v : Val} {f : Fun} {q : Int} (h : headL n f v.num v.args.length v.ws = false) : chkV ex n v f q = (false, q - 1) := by rw [chkV_eq, if_pos (.inr (.inl h))]
theorem chkV_ex {ex : Fun → List Val → List Int → Bool} {n : Int} {v : Val} {f : Fun} {q : Int} (h : ex f v.args v.ws = false) : chkV ex n v f q = (false, q - 1) := by rw [chkV_eq, if_pos (.inr (.inr h))]
theorem chkV_ok {ex : Fun → List Val → List Int → Bool} {n : Int} {v : Val} {f : Fun} {q : Int} (h : ¬ q - 1 < 0) (hh : headL n f v.num v.args.length v.ws = true) (he : ex f v.args v.ws = true) : chkV ex n v f q = chkL ex n v.args (argF f v.num) 0 (q - 1) := by
  rw [chkV_eq, if_neg]
  rw [hh, he]
  simp [h]
theorem exOf_plain {lo : Bool} {f : Fun} {l : List Val} {w : List Int} (h : setsK f.kind = false) : exOf lo f l w = true := by
  unfold exOf
  cases lo
  · simp [exS, exN, h]
  · simp [exL]
def ChkAt (id : Nat) (n : Int) (lo : Bool) (v : Val) : Prop := ∀ (f : Fun), shapedF f = true → ∀ (q : Int) (m : Mem), -1000000 ≤ q → q ≤ 1000000 → m.bx[id]? = some [.int .i64 n, .int .i64 q, .bool lo] →
    evCall C0 76 [.ptr id 0, .agg f.cells, .agg v.cells] m = some (.ret (.bool (chkV (exOf lo) n v f q).1), ⟨m.bx.set id [.int .i64 n, .int .i64 (chkV (exOf lo) n v f q).2, .bool lo], m.rw⟩)
section
variable {id : Nat} {n : Int} {lo : Bool}
set_option maxHeartbeats 4000000 in
theorem valid_leaf {v : Val} {f : Fun} (hk : f.kind = 0 ∨ f.kind = 1) {q : Int} {m : Mem} (h1 : -1000000 ≤ q) (h2 : q ≤ 1000000) (hbx : m.bx[id]? = some [.int .i64 n, .int .i64 q, .bool lo]) :
    evCall C0 76 [.ptr id 0, .agg f.cells, .agg v.cells] m = some (.ret (.bool (chkV (exOf lo) n v f q).1), ⟨m.bx.set id [.int .i64 n, .int .i64 (chkV (exOf lo) n v f q).2, .bool lo], m.rw⟩) := by
  have hid : id < m.bx.length := (List.getElem?_eq_some_iff.1 hbx).1
  have hg : m.bx[id] = [.int .i64 n, .int .i64 q, .bool lo] := (List.getElem?_eq_some_iff.1 hbx).2
  have hid1 : id < m.bx.length + 2 := by omega
  have w1 : IntKind.i64.wrap (q - 1) = q - 1 := wrap_id _ (by omega)
  rw [evCall_body C0 (C0_ext _ (by decide)) (by rw [C0_P]; exact Tryz.func76) rfl (by rw [C0_ann]; rfl) (by decide) (by simp [Tryz.f76])]
  by_cases c1 : q - 1 < 0
  case pos =>
    rw [chkV_few c1]
    simp [Tryz.f76, a76, reg76, loop76, draw76, dok76, hg, hid, hid1, at_lt, set_lt, w1, c1, leave_setb]
  by_cases cw : v.ws.length = 0
  case neg =>
    rcases hk with hk | hk
    all_goals
      rw [chkV_bad (by simp [headL, wtd, hk, cw])]
      simp [Tryz.f76, a76, reg76, loop76, draw76, dok76, hg, hid, hid1, at_lt, set_lt, w1, c1, hk, cw, leave_setb]
  by_cases ca : v.args.length = 0
  case neg =>
    rcases hk with hk | hk
    all_goals
      rw [chkV_bad (by simp [headL, hk, ca])]
      simp [Tryz.f76, a76, reg76, loop76, draw76, dok76, hg, hid, hid1, at_lt, set_lt, w1, c1, hk, cw, ca, show ¬ (v.args.length : Int) = 0 by omega, show ¬ v.args = [] from fun h => ca (by rw [h]; rfl), leave_setb]
  by_cases c3 : 0 ≤ v.num
  case neg =>
    rcases hk with hk | hk
    all_goals
      rw [chkV_bad (by simp [headL, hk, c3])]
      simp [Tryz.f76, a76, reg76, loop76, draw76, dok76, hg, hid, hid1, at_lt, set_lt, w1, c1, hk, cw, ca, c3, leave_setb]
  have hl : v.args = [] := List.eq_nil_of_length_eq_zero ca
  rcases hk with hk | hk
  · by_cases c4 : v.num < n
    · rw [chkV_ok c1 (by simp [headL, wtd, hk, ca, cw, c3]; omega) (exOf_plain (by rw [hk]; rfl)), hl, chkL]
      simp [Tryz.f76, a76, reg76, loop76, draw76, dok76, hg, hid, hid1, at_lt, set_lt, w1, c1, hk, cw, ca, c3, c4, leave_setb]
    · rw [chkV_bad (by simp [headL, hk, ca, c3]; omega)]
      simp [Tryz.f76, a76, reg76, loop76, draw76, dok76, hg, hid, hid1, at_lt, set_lt, w1, c1, hk, cw, ca, c3, c4, leave_setb]
  · by_cases c4 : v.num < f.num
    · rw [chkV_ok c1 (by simp [headL, wtd, hk, ca, cw, c3]; omega) (exOf_plain (by rw [hk]; rfl)), hl, chkL]
      simp [Tryz.f76, a76, reg76, loop76, draw76, dok76, hg, hid, hid1, at_lt, set_lt, w1, c1, hk, cw, ca, c3, c4, leave_setb]
    · rw [chkV_bad (by simp [headL, hk, ca, c3]; omega)]
      simp [Tryz.f76, a76, reg76, loop76, draw76, dok76, hg, hid, hid1, at_lt, set_lt, w1, c1, hk, cw, ca, c3, c4, leave_setb]
set_option maxHeartbeats 4000000 in
theorem valid_prod {v : Val} {f : Fun} (hf : shapedF f = true) (hk : f.kind = 2) (hfl : f.args.length = 2) (H : ∀ u, u ∈ v.args → ChkAt id n lo u) {q : Int} {m : Mem} (h1 : -1000000 ≤ q) (h2 : q ≤ 1000000) (hbx : m.bx[id]? = some [.int .i64 n, .int .i64 q, .bool lo]) :
    evCall C0 76 [.ptr id 0, .agg f.cells, .agg v.cells] m = some (.ret (.bool (chkV (exOf lo) n v f q).1), ⟨m.bx.set id [.int .i64 n, .int .i64 (chkV (exOf lo) n v f q).2, .bool lo], m.rw⟩) := by
  have hid : id < m.bx.length := (List.getElem?_eq_some_iff.1 hbx).1
  have hg : m.bx[id] = [.int .i64 n, .int .i64 q, .bool lo] := (List.getElem?_eq_some_iff.1 hbx).2
  have hid1 : id < m.bx.length + 2 := by omega
  have w1 : IntKind.i64.wrap (q - 1) = q - 1 := wrap_id _ (by omega)
  rw [evCall_body C0 (C0_ext _ (by decide)) (by rw [C0_P]; exact Tryz.func76) rfl (by rw [C0_ann]; rfl) (by decide) (by simp [Tryz.f76])]
  by_cases c1 : q - 1 < 0
  case pos =>
    rw [chkV_few c1]
    simp [Tryz.f76, a76, reg76, loop76, draw76, dok76, hg, hid, hid1, at_lt, set_lt, w1, c1, leave_setb]
  by_cases cw : v.ws.length = 0
  case neg =>
    rw [chkV_bad (by simp [headL, wtd, hk, cw])]
    simp [Tryz.f76, a76, reg76, loop76, draw76, dok76, hg, hid, hid1, at_lt, set_lt, w1, c1, hk, cw, leave_setb]
  by_cases cn : v.num = 0
  case neg =>
    rw [chkV_bad (by simp [headL, wtd, hk]; omega)]
    simp [Tryz.f76, a76, reg76, loop76, draw76, dok76, hg, hid, hid1, at_lt, set_lt, w1, c1, hk, cw, cn, leave_setb]
  by_cases ca : v.args.length = 2
  case neg =>
    rw [chkV_bad (by simp [headL, hk, hfl]; omega)]
    simp [Tryz.f76, a76, reg76, loop76, draw76, dok76, hg, hid, hid1, at_lt, set_lt, w1, c1, hk, cw, cn, ca, show ¬ (v.args.length : Int) = 2 by omega, leave_setb]
  have a0 : 0 < v.args.length := by omega
  have a1 : 1 < v.args.length := by omega
  have f0 : 0 < f.args.length := by omega
  have f1 : 1 < f.args.length := by omega
  have g0 : argF f v.num 0 = f.args[0] := by unfold argF; rw [if_pos hk, List.getD_eq_getElem?_getD, List.getElem?_eq_getElem f0]; rfl
  have g1 : argF f v.num 1 = f.args[1] := by unfold argF; rw [if_pos hk, List.getD_eq_getElem?_getD, List.getElem?_eq_getElem f1]; rfl
  rw [chkV_ok c1 (by simp [headL, wtd, hk, hfl, ca, cw, cn]) (exOf_plain (by rw [hk]; rfl))]
  have e0 := chkL_drop (ex := exOf lo) (n := n) a0 (argF f v.num) (q - 1)
  rw [List.drop_zero] at e0
  rw [e0, g0]
  have b1 := Fun.at_cellsL f.args 0 f0
  have b2 := Fun.at_cellsL f.args 1 f1
  have b3 := Val.at_cellsL v.args 0 a0
  have b4 := Val.at_cellsL v.args 1 a1
  simp at b1 b2 b3 b4
  have he0 := H v.args[0] (List.getElem_mem a0) f.args[0] (shaped_arg hf f0) (q - 1) ⟨m.bx.set id [.int .i64 n, .int .i64 (q - 1), .bool lo] ++ [f.cells, v.cells], m.rw⟩ (by omega) (by omega) (by simp [hid, at_lt])
  simp [hid, set_lt, hk, hfl, cn, ca, cw] at he0
  have hle := chkV_le (exOf lo) n v.args[0] f.args[0] (q - 1)
  have hpos := chkV_pos (exOf lo) n v.args[0] f.args[0] (q - 1) (by omega)
  cases hc : (chkV (exOf lo) n v.args[0] f.args[0] (q - 1)).1
  · simp [hc] at he0
    simp [Tryz.f76, a76, reg76, loop76, draw76, dok76, hg, hid, hid1, at_lt, set_lt, w1, c1, hk, cw, cn, ca, hfl, b1, b2, b3, b4, he0, leave_setb]
  · replace hpos := hpos hc
    simp [hc] at he0
    generalize (chkV (exOf lo) n v.args[0] f.args[0] (q - 1)).2 = q1 at he0 hle hpos ⊢
    rw [if_pos rfl, chkL_drop a1 (argF f v.num) q1, g1, List.drop_eq_nil_of_le (show v.args.length ≤ 1 + 1 by omega), chkL]
    have he1 := H v.args[1] (List.getElem_mem a1) f.args[1] (shaped_arg hf f1) q1 ⟨m.bx.set id [.int .i64 n, .int .i64 q1, .bool lo] ++ [f.cells, v.cells], m.rw⟩ (by omega) (by omega) (by simp [hid, at_lt])
    simp [hid, set_lt, hk, hfl, cn, ca, cw] at he1
    cases hc1 : (chkV (exOf lo) n v.args[1] f.args[1] q1).1
    · simp [hc1] at he1
      simp [Tryz.f76, a76, reg76, loop76, draw76, dok76, hg, hid, hid1, at_lt, set_lt, w1, c1, hk, cw, cn, ca, hfl, b1, b2, b3, b4, he0, he1, leave_setb]
    · simp [hc1] at he1
      simp [Tryz.f76, a76, reg76, loop76, draw76, dok76, hg, hid, hid1, at_lt, set_lt, w1, c1, hk, cw, cn, ca, hfl, b1, b2, b3, b4, he0, he1, leave_setb]
set_option maxHeartbeats 4000000 in
theorem valid_sum {v : Val} {f : Fun} (hf : shapedF f = true) (hk : f.kind = 3) (hfl : f.args.length = 2) (H : ∀ u, u ∈ v.args → ChkAt id n lo u) {q : Int} {m : Mem} (h1 : -1000000 ≤ q) (h2 : q ≤ 1000000) (hbx : m.bx[id]? = some [.int .i64 n, .int .i64 q, .bool lo]) :
    evCall C0 76 [.ptr id 0, .agg f.cells, .agg v.cells] m = some (.ret (.bool (chkV (exOf lo) n v f q).1), ⟨m.bx.set id [.int .i64 n, .int .i64 (chkV (exOf lo) n v f q).2, .bool lo], m.rw⟩) := by
  have hid : id < m.bx.length := (List.getElem?_eq_some_iff.1 hbx).1
  have hg : m.bx[id] = [.int .i64 n, .int .i64 q, .bool lo] := (List.getElem?_eq_some_iff.1 hbx).2
  have hid1 : id < m.bx.length + 2 := by omega
  have w1 : IntKind.i64.wrap (q - 1) = q - 1 := wrap_id _ (by omega)
  rw [evCall_body C0 (C0_ext _ (by decide)) (by rw [C0_P]; exact Tryz.func76) rfl (by rw [C0_ann]; rfl) (by decide) (by simp [Tryz.f76])]
  by_cases c1 : q - 1 < 0
  case pos =>
    rw [chkV_few c1]
    simp [Tryz.f76, a76, reg76, loop76, draw76, dok76, hg, hid, hid1, at_lt, set_lt, w1, c1, leave_setb]
  by_cases cw : v.ws.length = 0
  case neg =>
    rw [chkV_bad (by simp [headL, wtd, hk, cw])]
    simp [Tryz.f76, a76, reg76, loop76, draw76, dok76, hg, hid, hid1, at_lt, set_lt, w1, c1, hk, cw, leave_setb]
  by_cases ca : v.args.length = 1
  case neg =>
    rw [chkV_bad (by simp [headL, hk, hfl]; omega)]
    simp [Tryz.f76, a76, reg76, loop76, draw76, dok76, hg, hid, hid1, at_lt, set_lt, w1, c1, hk, cw, ca, show ¬ (v.args.length : Int) = 1 by omega, leave_setb]
  have a0 : 0 < v.args.length := by omega
  have f0 : 0 < f.args.length := by omega
  have f1 : 1 < f.args.length := by omega
  have b1 := Fun.at_cellsL f.args 0 f0
  have b2 := Fun.at_cellsL f.args 1 f1
  have b3 := Val.at_cellsL v.args 0 a0
  simp at b1 b2 b3
  by_cases cn : v.num = 0
  · have g0 : argF f v.num 0 = f.args[0] := by unfold argF; rw [if_neg (by omega), if_pos hk, cn, List.getD_eq_getElem?_getD, List.getElem?_eq_getElem (by simpa using f0)]; rfl
    rw [chkV_ok c1 (by simp [headL, wtd, hk, hfl, ca, cw, cn]) (exOf_plain (by rw [hk]; rfl))]
    have e0 := chkL_drop (ex := exOf lo) (n := n) a0 (argF f v.num) (q - 1)
    rw [List.drop_zero] at e0
    rw [e0, g0, List.drop_eq_nil_of_le (show v.args.length ≤ 0 + 1 by omega), chkL]
    have he0 := H v.args[0] (List.getElem_mem a0) f.args[0] (shaped_arg hf f0) (q - 1) ⟨m.bx.set id [.int .i64 n, .int .i64 (q - 1), .bool lo] ++ [f.cells, v.cells], m.rw⟩ (by omega) (by omega) (by simp [hid, at_lt])
    simp [hid, set_lt, hk, hfl, cn, ca, cw] at he0
    cases hc : (chkV (exOf lo) n v.args[0] f.args[0] (q - 1)).1
    · simp [hc] at he0
      simp [Tryz.f76, a76, reg76, loop76, draw76, dok76, hg, hid, hid1, at_lt, set_lt, w1, c1, hk, cw, cn, ca, hfl, b1, b2, b3, he0, leave_setb]
    · simp [hc] at he0
      simp [Tryz.f76, a76, reg76, loop76, draw76, dok76, hg, hid, hid1, at_lt, set_lt, w1, c1, hk, cw, cn, ca, hfl, b1, b2, b3, he0, leave_setb]
  by_cases cm : v.num = 1
  · have g0 : argF f v.num 0 = f.args[1] := by unfold argF; rw [if_neg (by omega), if_pos hk, cm, List.getD_eq_getElem?_getD, List.getElem?_eq_getElem (by simpa using f1)]; rfl
    rw [chkV_ok c1 (by simp [headL, wtd, hk, hfl, ca, cw, cm]) (exOf_plain (by rw [hk]; rfl))]
    have e0 := chkL_drop (ex := exOf lo) (n := n) a0 (argF f v.num) (q - 1)
    rw [List.drop_zero] at e0
    rw [e0, g0, List.drop_eq_nil_of_le (show v.args.length ≤ 0 + 1 by omega), chkL]
    have he0 := H v.args[0] (List.getElem_mem a0) f.args[1] (shaped_arg hf f1) (q - 1) ⟨m.bx.set id [.int .i64 n, .int .i64 (q - 1), .bool lo] ++ [f.cells, v.cells], m.rw⟩ (by omega) (by omega) (by simp [hid, at_lt])
    simp [hid, set_lt, hk, hfl, cm, ca, cw] at he0
    cases hc : (chkV (exOf lo) n v.args[0] f.args[1] (q - 1)).1
    · simp [hc] at he0
      simp [Tryz.f76, a76, reg76, loop76, draw76, dok76, hg, hid, hid1, at_lt, set_lt, w1, c1, hk, cw, cm, ca, hfl, b1, b2, b3, he0, leave_setb]
    · simp [hc] at he0
      simp [Tryz.f76, a76, reg76, loop76, draw76, dok76, hg, hid, hid1, at_lt, set_lt, w1, c1, hk, cw, cm, ca, hfl, b1, b2, b3, he0, leave_setb]
  · rw [chkV_bad (by simp [headL, wtd, hk]; omega)]
    simp [Tryz.f76, a76, reg76, loop76, draw76, dok76, hg, hid, hid1, at_lt, set_lt, w1, c1, hk, cw, cn, cm, ca, leave_setb]
end
theorem elem_ok {lo : Bool} {n : Int} {f : Fun} {v : Val} (hk : setsK f.kind = true) (h0 : v.num = 0) (h5 : f.kind = 5 → v.ws.length = 0) : elemB lo f v = (headL n f v.num v.args.length v.ws && exOf lo f v.args v.ws) := by
  rw [Bool.eq_iff_iff, Bool.and_eq_true, head_sets hk]
  unfold elemB
  have hx : exOf lo f v.args v.ws = (lo || exS f v.args v.ws) := by
    unfold exOf
    cases lo <;> rfl
  rw [hx, Bool.and_eq_true]
  have : (if wtd f.kind = true then weighI v.ws 0 && decide (v.ws.length = v.args.length) && (decide (f.kind = 6) || decide (0 < v.args.length)) else true) = true ↔ v.num = 0 ∧ (if wtd f.kind = true then weighI v.ws 0 = true ∧ v.ws.length = v.args.length ∧ (f.kind = 6 ∨ 0 < v.args.length) else v.ws.length = 0) := by
    cases hw : wtd f.kind
    · have : f.kind = 5 := by
        unfold setsK at hk
        rw [hw, Bool.or_false] at hk
        simpa using hk
      simp [h0, h5 this]
    · simp [h0, and_assoc]
  rw [this]
section
variable {id : Nat} {n : Int} {lo : Bool}
set_option maxHeartbeats 8000000 in
theorem valid_many {v : Val} {f : Fun} (hf : shapedF f = true) (hk : f.kind = 4 ∨ f.kind = 5 ∨ f.kind = 6 ∨ f.kind = 7) (hfl : f.args.length = 1) (hb : v.nodes ≤ 1000000000) (hs : slimV v) (H : ∀ u, u ∈ v.args → ChkAt id n lo u) {q : Int} {m : Mem} (h1 : -1000000 ≤ q) (h2 : q ≤ 1000000) (hbx : m.bx[id]? = some [.int .i64 n, .int .i64 q, .bool lo]) :
    evCall C0 76 [.ptr id 0, .agg f.cells, .agg v.cells] m = some (.ret (.bool (chkV (exOf lo) n v f q).1), ⟨m.bx.set id [.int .i64 n, .int .i64 (chkV (exOf lo) n v f q).2, .bool lo], m.rw⟩) := by
  have hid : id < m.bx.length := (List.getElem?_eq_some_iff.1 hbx).1
  have hg : m.bx[id] = [.int .i64 n, .int .i64 q, .bool lo] := (List.getElem?_eq_some_iff.1 hbx).2
  have hid1 : id < m.bx.length + 2 := by omega
  have w1 : IntKind.i64.wrap (q - 1) = q - 1 := wrap_id _ (by omega)
  have hlen := v.length_args
  rw [evCall_body C0 (C0_ext _ (by decide)) (by rw [C0_P]; exact Tryz.func76) rfl (by rw [C0_ann]; rfl) (by decide) (by simp [Tryz.f76])]
  by_cases c1 : q - 1 < 0
  case pos =>
    rw [chkV_few c1]
    simp [Tryz.f76, a76, reg76, loop76, draw76, dok76, hg, hid, hid1, at_lt, set_lt, w1, c1, leave_setb]
  by_cases cn : v.num = 0
  case neg =>
    rw [chkV_bad (by rcases hk with hk | hk | hk | hk <;> simp [headL, wtd, hk] <;> omega)]
    rcases hk with hk | hk | hk | hk
    · by_cases cw : v.ws.length = 0
      · simp [Tryz.f76, a76, reg76, loop76, draw76, dok76, hg, hid, hid1, at_lt, set_lt, w1, c1, hk, cw, cn, leave_setb]
      · simp [Tryz.f76, a76, reg76, loop76, draw76, dok76, hg, hid, hid1, at_lt, set_lt, w1, c1, hk, cw, cn, leave_setb]
    · by_cases cw : v.ws.length = 0
      · simp [Tryz.f76, a76, reg76, loop76, draw76, dok76, hg, hid, hid1, at_lt, set_lt, w1, c1, hk, cw, cn, leave_setb]
      · simp [Tryz.f76, a76, reg76, loop76, draw76, dok76, hg, hid, hid1, at_lt, set_lt, w1, c1, hk, cw, cn, leave_setb]
    · simp [Tryz.f76, a76, reg76, loop76, draw76, dok76, hg, hid, hid1, at_lt, set_lt, w1, c1, hk, cn, leave_setb]
    · simp [Tryz.f76, a76, reg76, loop76, draw76, dok76, hg, hid, hid1, at_lt, set_lt, w1, c1, hk, cn, leave_setb]
  have f0 : 0 < f.args.length := by omega
  have b1 := Fun.at_cellsL f.args 0 f0
  simp at b1
  have g0 : ∀ i, argF f v.num i = f.args[0] := fun i => by unfold argF; rw [if_neg (by omega), if_neg (by omega), List.getD_eq_getElem?_getD, List.getElem?_eq_getElem f0]; rfl
  have hfn := shaped_num hf
  by_cases c4 : f.kind = 4
  case' pos =>
    clear hk
    by_cases cw : v.ws.length = 0
    case neg =>
      rw [chkV_bad (by simp [headL, wtd, c4, cw])]
      simp [Tryz.f76, a76, reg76, loop76, draw76, dok76, hg, hid, hid1, at_lt, set_lt, w1, c1, c4, cw, leave_setb]
    by_cases ca : (v.args.length : Int) = f.num
    case neg =>
      rw [chkV_bad (by simp [headL, c4]; omega)]
      simp [Tryz.f76, a76, reg76, loop76, draw76, dok76, hg, hid, hid1, at_lt, set_lt, w1, c1, c4, cw, cn, ca, leave_setb]
    rw [chkV_ok c1 (by simp [headL, wtd, c4, cw, cn, ca]) (exOf_plain (by rw [c4]; rfl))]
    simp [Tryz.f76, a76, reg76, loop76, draw76, dok76, hg, hid, hid1, at_lt, set_lt, w1, c1, c4, cw, cn, ca, leave_setb]
  case' neg =>
    have hset : setsK f.kind = true := by unfold setsK wtd; simp; omega
    have hel := ev_elements id n (q - 1) lo f v hset hb hs ⟨m.bx.set id [.int .i64 n, .int .i64 (q - 1), .bool lo] ++ [f.cells, v.cells], m.rw⟩ (by simp [hid, at_lt])
    by_cases c5 : f.kind = 5 ∧ ¬ v.ws.length = 0
    case pos =>
      rw [chkV_bad (by simp [headL, wtd, c5.1, c5.2])]
      simp [Tryz.f76, a76, reg76, loop76, draw76, dok76, hg, hid, hid1, at_lt, set_lt, w1, c1, c5.1, c5.2, cn, leave_setb]
    have h5 : f.kind = 5 → v.ws.length = 0 := fun h => by
      by_cases h' : v.ws.length = 0
      · exact h'
      · exact absurd ⟨h, h'⟩ c5
    have hel2 := elem_ok (lo := lo) (n := n) hset cn h5
    have ke : (¬ f.kind = 0) ∧ (¬ f.kind = 1) ∧ (¬ f.kind = 2) ∧ (¬ f.kind = 3) ∧ 4 ≤ f.kind ∧ (f.kind < 6 ↔ f.kind = 5) := by omega
    obtain ⟨k0, k1, k2, k3, k4, k6⟩ := ke
    simp [cn] at hel
    cases he : elemB lo f v
    case false =>
      rw [he] at hel hel2
      have : chkV (exOf lo) n v f q = (false, q - 1) := by
        cases hh : headL n f v.num v.args.length v.ws
        · exact chkV_bad hh
        · rw [hh, Bool.true_and] at hel2
          exact chkV_ex hel2.symm
      rw [this]
      by_cases c6 : f.kind = 5
      · have cw := h5 c6
        simp [c6, cw] at hel
        simp [Tryz.f76, a76, reg76, loop76, draw76, dok76, hg, hid, hid1, at_lt, set_lt, w1, c1, c6, cw, cn, hel, leave_setb]
      · simp [Tryz.f76, a76, reg76, loop76, draw76, dok76, hg, hid, hid1, at_lt, set_lt, w1, c1, k0, k1, k2, k3, k4, k6, c4, c6, cn, hel, leave_setb]
    rw [he] at hel hel2
    have hel3 := Bool.and_eq_true_iff.1 hel2.symm
    rw [chkV_ok c1 hel3.1 hel3.2]
    by_cases c6 : f.kind = 5
    case' pos =>
      have cw := h5 c6
      simp [c6, cw] at hel
      simp [Tryz.f76, a76, reg76, loop76, draw76, dok76, hg, hid, hid1, at_lt, set_lt, w1, c1, c6, cw, cn, hel, leave_setb]
    case' neg =>
      simp [Tryz.f76, a76, reg76, loop76, draw76, dok76, hg, hid, hid1, at_lt, set_lt, w1, c1, k0, k1, k2, k3, k4, k6, c4, c6, cn, hel, leave_setb]
  all_goals
    refine loop_in (fun x : Nat × Int => ⟨[(0, .ptr id 0), (4, .ptr m.bx.length 0), (153, .isl false v.args.length (Val.cellsL v.args)), (154, .int .i64 v.args.length), (155, .int .i64 x.1)], ⟨m.bx.set id [.int .i64 n, .int .i64 x.2, .bool lo] ++ [f.cells, v.cells], m.rw⟩⟩)
      (fun x => some (.ret (.bool (chkL (exOf lo) n (v.args.drop x.1) (argF f v.num) x.1 x.2).1), ⟨m.bx.set id [.int .i64 n, .int .i64 (chkL (exOf lo) n (v.args.drop x.1) (argF f v.num) x.1 x.2).2, .bool lo], m.rw⟩)) (fun x => v.args.length - x.1) (fun x => x.1 ≤ v.args.length ∧ 0 ≤ x.2 ∧ x.2 ≤ 1000000) (0, q - 1) ?_ ?_ ?_ ?_ ?_
    · first | simp [c6, cw, cn] | simp [c4, cw, cn, ca] | simp [cn]
    · simp [cn]
    · simp; omega
    · intro x; simp [Tryz.f76, a76, reg76, loop76, draw76, dok76]
    · rintro ⟨i, p⟩ hI hrec
      simp only at hI
      obtain ⟨hi, hp1, hp2⟩ := hI
      by_cases hlt : i < v.args.length
      · have w2 : IntKind.i64.wrap (i + 1) = i + 1 := wrap_id _ (by omega)
        have h3 : (i + 1) * 3 ≤ v.args.length * 3 := by omega
        have he := H v.args[i] (List.getElem_mem hlt) f.args[0] (shaped_arg hf f0) p ⟨m.bx.set id [.int .i64 n, .int .i64 p, .bool lo] ++ [f.cells, v.cells, v.args[i].cells], m.rw⟩ (by omega) (by omega) (by simp [hid, at_lt])
        simp [hid, set_lt] at he
        have hle := chkV_le (exOf lo) n v.args[i] f.args[0] p
        have hpos := chkV_pos (exOf lo) n v.args[i] f.args[0] p (by omega)
        simp only
        rw [chkL_drop hlt, g0]
        cases hc : (chkV (exOf lo) n v.args[i] f.args[0] p).1
        · simp [hc] at he
          clear hrec
          simp [round, Tryz.f76, a76, reg76, loop76, draw76, dok76, hlt, w2, h3, f0, show 3 ≤ f.args.length * 3 by omega, b1, hid, hid1, at_lt, set_lt, he, leave_setb]
        · simp [hc] at he
          replace hpos := hpos hc
          simp [round, Tryz.f76, a76, reg76, loop76, draw76, dok76, hlt, w2, h3, f0, show 3 ≤ f.args.length * 3 by omega, b1, hid, hid1, at_lt, set_lt, he, leave_setb]
          refine hrec (i + 1, (chkV (exOf lo) n v.args[i] f.args[0] p).2) _ _ ?_ ?_ ?_ ?_
          · simp; omega
          · simp; omega
          · simp
          · simp
      · clear hrec
        simp [round, Tryz.f76, a76, reg76, loop76, draw76, dok76, hlt, hid, hid1, at_lt, set_lt, leave_setb]
        rw [List.drop_eq_nil_of_le (by omega), chkL]
        simp
end
theorem arityF_kind {k : Int} (h : 0 ≤ arityF k) : 0 ≤ k ∧ k ≤ 7 := by
  unfold arityF at h
  repeat' split at h
  all_goals omega
mutual
theorem leftF_nodes : ∀ (f : Fun) (most : Int), 1 ≤ most → leftF f most = max (most - f.nodes) 0
  | .mk k n l, most, h => by
    rw [leftF, leftL_nodes l (most - 1) (by omega), Fun.nodes_eq]
    simp only [Fun.args_mk]
    omega
theorem leftL_nodes : ∀ (l : List Fun) (q : Int), 0 ≤ q → leftL l q = max (q - Fun.nodesL l) 0
  | [], q, h => by rw [leftL, Fun.nodesL]; omega
  | f :: r, q, h => by
    rw [leftL, Fun.nodesL]
    split
    · rw [leftF_nodes f q (by omega), leftL_nodes r _ (by omega)]
      omega
    · have := f.nodes_pos
      omega
end
mutual
theorem validF_spec : ∀ (f : Fun) (left deep : Int), 0 ≤ left → ((validF f left deep).1 = true ↔ ((f.nodes : Int) ≤ left ∧ deep - 1 + f.depth ≤ 8 ∧ shapedF f = true)) ∧ ((validF f left deep).1 = true → (validF f left deep).2 = left - f.nodes)
  | .mk k n l, left, deep, h => by
    rw [validF, Fun.nodes_eq, Fun.depth_eq, shapedF]
    simp only [Fun.args_mk]
    split
    · rename_i hc
      simp only [Bool.false_eq_true, false_iff, false_implies, and_true, Bool.and_eq_true, decide_eq_true_eq]
      rintro ⟨h1, h2, ⟨⟨h3, h4⟩, h5⟩, h6⟩
      have := arityF_kind (k := k) (by rw [← h3]; omega)
      omega
    · rename_i hc
      simp only [not_or, Int.not_lt, Decidable.not_not] at hc
      have := validL_spec l (left - 1) deep (by omega) (by omega)
      simp only [Bool.and_eq_true, decide_eq_true_eq]
      refine ⟨this.1.trans ⟨fun ⟨a, b, c⟩ => ⟨by omega, by omega, ⟨⟨hc.2.2.2.2.1, by omega⟩, by omega⟩, c⟩, fun ⟨a, b, c⟩ => ⟨by omega, by omega, c.2⟩⟩, fun hv => ?_⟩
      rw [this.2 hv]
      omega
theorem validL_spec : ∀ (l : List Fun) (left deep : Int), 0 ≤ left → deep ≤ 8 → ((validL l left deep).1 = true ↔ ((Fun.nodesL l : Int) ≤ left ∧ deep + Fun.depthL l ≤ 8 ∧ shapedL l = true)) ∧ ((validL l left deep).1 = true → (validL l left deep).2 = left - Fun.nodesL l)
  | [], left, deep, h, hd => by
    rw [validL, Fun.nodesL, Fun.depthL, shapedL]
    simp
    omega
  | f :: r, left, deep, h, hd => by
    rw [validL, Fun.nodesL, Fun.depthL, shapedL]
    have h1 := validF_spec f left (deep + 1) h
    simp only [Bool.and_eq_true]
    split
    · rename_i hv
      have h2 := h1.2 hv
      have h3 := h1.1.1 hv
      have h4 := validL_spec r (left - f.nodes) deep (by omega) hd
      rw [h2]
      refine ⟨h4.1.trans ⟨fun ⟨a, b, c⟩ => ⟨by omega, by omega, h3.2.2, c⟩, fun ⟨a, b, c⟩ => ⟨by omega, by omega, c.2⟩⟩, fun hv' => ?_⟩
      rw [h4.2 hv']
      omega
    · rename_i hv
      simp only [Bool.false_eq_true, false_iff, false_implies, and_true]
      rintro ⟨a, b, c, d⟩
      exact hv (h1.1.2 ⟨by omega, by omega, c⟩)
end
theorem okF_iff (f : Fun) : okF f = true ↔ f.nodes ≤ 20 ∧ f.depth ≤ 8 ∧ shapedF f = true := by
  unfold okF
  rw [(validF_spec f 20 1 (by omega)).1]
  constructor
  · rintro ⟨a, b, c⟩; exact ⟨by omega, by omega, c⟩
  · rintro ⟨a, b, c⟩; exact ⟨by omega, by omega, c⟩
theorem isF_okF (f : Fun) : isF f = okF f := by
  rw [Bool.eq_iff_iff, okF_iff, isF]
  simp only [Bool.and_eq_true, decide_eq_true_eq]
  rw [leftF_nodes f 21 (by omega)]
  constructor
  · rintro ⟨⟨a, b⟩, c⟩; exact ⟨by omega, b, c⟩
  · rintro ⟨a, b, c⟩; exact ⟨⟨by omega, b⟩, c⟩
theorem ev_vcheck (id : Nat) (n : Int) (lo : Bool) (N : Nat) : ∀ (v : Val), v.nodes ≤ N → v.nodes ≤ 1000000000 → slimV v → ChkAt id n lo v := by
  induction N with
  | zero => intro v hN; have := v.nodes_pos; omega
  | succ N ih =>
  intro v hN hb hs f hf q m h1 h2 hbx
  have hs' := (slimV_eq v ▸ hs).2
  have H : ∀ u, u ∈ v.args → ChkAt id n lo u := fun u hu => ih u (by have := Val.nodes_arg hu; omega) (by have := Val.nodes_arg hu; omega) (slimL_mem hs' hu)
  rcases shaped_kind hf with ⟨h, hl⟩ | ⟨h, hl⟩ | ⟨h, hl⟩ | ⟨h, hl⟩ | ⟨h, hl⟩ | ⟨h, hl⟩ | ⟨h, hl⟩ | ⟨h, hl⟩
  · exact valid_leaf (.inl h) h1 h2 hbx
  · exact valid_leaf (.inr h) h1 h2 hbx
  · exact valid_prod hf h hl H h1 h2 hbx
  · exact valid_sum hf h hl H h1 h2 hbx
  · exact valid_many hf (.inl h) hl hb hs H h1 h2 hbx
  · exact valid_many hf (.inr (.inl h)) hl hb hs H h1 h2 hbx
  · exact valid_many hf (.inr (.inr (.inl h))) hl hb hs H h1 h2 hbx
  · exact valid_many hf (.inr (.inr (.inr h))) hl hb hs H h1 h2 hbx
theorem ev_VValid (f : Fun) (n : Int) (v : Val) (hf : shapedF f = true) (hb : v.nodes ≤ 1000000000) (hs : slimV v) (m : Mem) : evCall C0 62 [.agg f.cells, .int .i64 n, .agg v.cells] m = some (.ret (.bool (chkV exS n v f 2000).1), m) := by
  rw [evCall_body C0 (C0_ext _ (by decide)) (by rw [C0_P]; exact Tryz.func62) rfl (by rw [C0_ann]; rfl) (by decide) (by simp [Tryz.f62])]
  have he := ev_vcheck (m.bx.length + 2) n false v.nodes v (Nat.le_refl _) hb hs f hf 2000 ⟨m.bx ++ [f.cells, v.cells, [.int .i64 n, .int .i64 2000, .bool false]], m.rw⟩ (by omega) (by omega) (by simp)
  rw [show exOf false = exS from rfl] at he
  simp at he
  simp [Tryz.f62, a62, reg62, he]
def errF (f : Fun) (n : Int) : Int := if okF f then (if n < 0 ∨ 100 < n then 1 else 0) else 10
theorem ev_fine (f : Fun) (n : Int) (hb : f.nodes ≤ 1000000000) (m : Mem) : evCall C0 43 [.agg f.cells, .int .i64 n] m = some (.ret (.int .i64 (errF f n)), m) := by
  rw [evCall_body C0 (C0_ext _ (by decide)) (by rw [C0_P]; exact Tryz.func43) rfl (by rw [C0_ann]; rfl) (by decide) (by simp [Tryz.f43])]
  have he := ev_Valid f hb
  simp at he
  unfold errF
  cases hc : okF f
  · simp [hc] at he
    simp [Tryz.f43, a43, reg43, he]
  · simp [hc] at he
    by_cases h1 : n < 0
    · simp [Tryz.f43, a43, reg43, he, h1]
    · by_cases h2 : 100 < n
      · simp [Tryz.f43, a43, reg43, he, h1, h2]
      · simp [Tryz.f43, a43, reg43, he, h1, h2]
def errV (f : Fun) (n : Int) (v : Val) : Int := if errF f n = 0 then (if (chkV exS n v f 2000).1 then 0 else 20) else errF f n
theorem errF_zero {f : Fun} {n : Int} (h : errF f n = 0) : shapedF f = true ∧ 0 ≤ n ∧ n ≤ 100 := by
  unfold errF at h
  cases hc : okF f
  · rw [hc] at h; simp at h
  · rw [hc, if_pos rfl] at h
    refine ⟨?_, ?_⟩
    · unfold okF at hc
      exact (((validF_spec f 20 1 (by omega)).1).1 hc).2.2
    · split at h
      · cases h
      · omega
theorem ev_whole (f : Fun) (n : Int) (v : Val) (hbf : f.nodes ≤ 1000000000) (hb : v.nodes ≤ 1000000000) (hs : slimV v) (m : Mem) : evCall C0 31 [.agg f.cells, .int .i64 n, .agg v.cells] m = some (.ret (.int .i64 (errV f n v)), m) := by
  rw [evCall_body C0 (C0_ext _ (by decide)) (by rw [C0_P]; exact Tryz.func31) rfl (by rw [C0_ann]; rfl) (by decide) (by simp [Tryz.f31])]
  have he := ev_fine f n hbf
  simp at he
  unfold errV
  by_cases h0 : errF f n = 0
  · have h1 := ev_VValid f n v (errF_zero h0).1 hb hs
    simp at h1
    simp [h0] at he
    cases hc : (chkV exS n v f 2000).1
    · simp [hc] at h1
      simp [Tryz.f31, a31, reg31, he, h1, h0]
    · simp [hc] at h1
      simp [Tryz.f31, a31, reg31, he, h1, h0]
  · simp [Tryz.f31, a31, reg31, he, h0]
theorem ev_Weighted (k : Int) (m : Mem) : evCall C0 68 [.int .i64 k] m = some (.ret (.bool (wtd k)), m) := by
  rw [evCall_body C0 (C0_ext _ (by decide)) (by rw [C0_P]; exact Tryz.func68) rfl (by rw [C0_ann]; rfl) (by decide) (by simp [Tryz.f68])]
  unfold wtd
  by_cases h : k = 6
  · simp [Tryz.f68, a68, reg68, h]
  · simp [Tryz.f68, a68, reg68, h]
theorem ev_Sets (k : Int) (m : Mem) : evCall C0 38 [.int .i64 k] m = some (.ret (.bool (setsK k)), m) := by
  rw [evCall_body C0 (C0_ext _ (by decide)) (by rw [C0_P]; exact Tryz.func38) rfl (by rw [C0_ann]; rfl) (by decide) (by simp [Tryz.f38])]
  unfold setsK
  have he := ev_Weighted k
  by_cases h : k = 5
  · simp [Tryz.f38, a38, reg38, h]
  · simp [Tryz.f38, a38, reg38, h, he]
theorem ev_rgcd (a b : Nat) (m : Mem) : evCall C0 69 [.int .i64 a, .int .i64 b] m = some (.ret (.int .i64 (Nat.gcd a b : Nat)), m) := by
  rw [evCall_body C0 (C0_ext _ (by decide)) (by rw [C0_P]; exact Tryz.func69) rfl (by rw [C0_ann]; rfl) (by decide) (by simp [Tryz.f69])]
  simp [Tryz.f69, a69, reg69, loop69, draw69, dok69]
  refine loop_in (fun y : Nat × Nat => ⟨[(0, .int .i64 y.1), (1, .int .i64 y.2)], m⟩)
    (fun y => some (.ret (.int .i64 (Nat.gcd y.1 y.2 : Nat)), m)) (fun y => y.2) (fun y => True) (a, b) ?_ ?_ ?_ ?_ ?_
  · simp
  · simp
  · trivial
  · intro x; simp [Tryz.f69, a69, reg69, loop69, draw69, dok69]
  · rintro ⟨a, c⟩ _ hrec
    by_cases h0 : c = 0
    · subst h0
      simp [round, Tryz.f69, a69, reg69, loop69, draw69, dok69]
    · have ht : (a : Int).tmod (c : Int) = ((a % c : Nat) : Int) := tmod_nat a c
      have hm : a % c < c := Nat.mod_lt _ (by omega)
      simp [round, Tryz.f69, a69, reg69, loop69, draw69, dok69, h0, ht, endRound_M0]
      refine hrec (c, a % c) _ _ ?_ ?_ ?_ ?_
      · exact hm
      · trivial
      · simp
      · simp only
        rw [Nat.gcd_comm c, ← Nat.gcd_rec, Nat.gcd_comm]
theorem ev_rorder (a b : Int) (m : Mem) : evCall C0 55 [.int .i64 a, .int .i64 b] m = some (.ret (.int .i64 (numC a b)), m) := by
  rw [evCall_body C0 (C0_ext _ (by decide)) (by rw [C0_P]; exact Tryz.func55) rfl (by rw [C0_ann]; rfl) (by decide) (by simp [Tryz.f55])]
  unfold numC
  by_cases h : a < b
  · simp [Tryz.f55, a55, reg55, h]
  · by_cases h2 : b < a
    · simp [Tryz.f55, a55, reg55, h, h2]
    · simp [Tryz.f55, a55, reg55, h, h2]
def numB (f : Fun) (n k : Int) : Bool := decide (0 ≤ k ∧ k ≤ (if f.kind = 0 then n - 1 else if f.kind = 1 then f.num - 1 else if f.kind = 3 then 1 else 0))
theorem ev_rnumber (f : Fun) (n : Int) (v : Val) (h0 : -1000000 ≤ n) (h1 : n ≤ 1000000) (hf : -1000000 ≤ f.num ∧ f.num ≤ 1000000) (m : Mem) : evCall C0 86 [.agg f.cells, .int .i64 n, .agg v.cells] m = some (.ret (.bool (numB f n v.num)), m) := by
  rw [evCall_body C0 (C0_ext _ (by decide)) (by rw [C0_P]; exact Tryz.func86) rfl (by rw [C0_ann]; rfl) (by decide) (by simp [Tryz.f86])]
  have w1 : IntKind.i64.wrap (n - 1) = n - 1 := wrap_id _ (by omega)
  have w2 : IntKind.i64.wrap (f.num - 1) = f.num - 1 := wrap_id _ (by omega)
  unfold numB
  by_cases c : 0 ≤ v.num
  · by_cases k0 : f.kind = 0
    · simp [Tryz.f86, a86, reg86, k0, w1, c]
    · by_cases k1 : f.kind = 1
      · simp [Tryz.f86, a86, reg86, k1, w2, c]
      · by_cases k3 : f.kind = 3
        · simp [Tryz.f86, a86, reg86, k3, c]
        · simp [Tryz.f86, a86, reg86, k0, k1, k3, c]
  · by_cases k0 : f.kind = 0
    · simp [Tryz.f86, a86, reg86, k0, w1, c]
    · by_cases k1 : f.kind = 1
      · simp [Tryz.f86, a86, reg86, k1, w2, c]
      · by_cases k3 : f.kind = 3
        · simp [Tryz.f86, a86, reg86, k3, c]
        · simp [Tryz.f86, a86, reg86, k0, k1, k3, c]
def wghB (k : Int) (many : Nat) (w : List Int) : Bool := if wtd k then weighI w 0 && decide (w.length = many) && (decide (k = 6) || decide (0 < many)) else decide (w.length = 0)
set_option maxHeartbeats 1000000 in
theorem ev_rweighed (k : Int) (v : Val) (hb : v.nodes ≤ 1000000000) (hs : v.ws.length ≤ 1000000000) (m : Mem) : evCall C0 87 [.int .i64 k, .agg v.cells] m = some (.ret (.bool (wghB k v.args.length v.ws)), m) := by
  rw [evCall_body C0 (C0_ext _ (by decide)) (by rw [C0_P]; exact Tryz.func87) rfl (by rw [C0_ann]; rfl) (by decide) (by simp [Tryz.f87])]
  have he := ev_Weighted k
  have hlen := v.length_args
  unfold wghB
  cases hw : wtd k
  · simp [hw] at he
    by_cases h0 : v.ws.length = 0
    · simp [Tryz.f87, a87, reg87, loop87, he, h0]
    · simp [Tryz.f87, a87, reg87, loop87, he, h0]
  · simp [hw] at he
    simp [Tryz.f87, a87, reg87, loop87, he]
    refine loop_in (fun x : Nat × Int => ⟨[(0, .int .i64 k), (3, .ptr m.bx.length 0), (5, .int .i64 x.2), (16, .isl false v.ws.length (ints v.ws)), (17, .int .i64 v.ws.length), (18, .int .i64 x.1)], ⟨m.bx ++ [v.cells], m.rw⟩⟩)
      (fun x => some (.ret (.bool (weighI (v.ws.drop x.1) x.2 && decide (v.ws.length = v.args.length) && (decide (k = 6) || decide (0 < v.args.length)))), m)) (fun x => v.ws.length - x.1) (fun x => x.1 ≤ v.ws.length ∧ 0 ≤ x.2 ∧ x.2 ≤ 1048576) (0, 0) ?_ ?_ ?_ ?_ ?_
    · simp
    · simp
    · simp
    · intro x; simp [Tryz.f87, a87, reg87, loop87]
    · rintro ⟨i, q⟩ hI hrec
      simp only at hI
      obtain ⟨hi, hq0, hq⟩ := hI
      by_cases hlt : i < v.ws.length
      · have w2 : IntKind.i64.wrap (i + 1) = i + 1 := wrap_id _ (by omega)
        have w4 : IntKind.i64.wrap (1048576 - q) = 1048576 - q := wrap_id _ (by omega)
        have hat := ints_at hlt
        have h5 : i + 1 ≤ v.ws.length := by omega
        simp only
        rw [weighI_drop hlt]
        generalize v.ws[i] = x at hat ⊢
        by_cases h1 : x < 1
        · clear hrec
          simp [round, Tryz.f87, a87, reg87, loop87, hlt, h5, w2, hat, h1]
        by_cases h3 : 1048576 - q < x
        · clear hrec
          simp [round, Tryz.f87, a87, reg87, loop87, hlt, h5, w2, w4, hat, h1, h3]
        · have w3 : IntKind.i64.wrap (q + x) = q + x := wrap_id _ (by omega)
          simp [round, Tryz.f87, a87, reg87, loop87, hlt, h5, w2, w3, w4, hat, h1, h3, endRound_M]
          refine hrec (i + 1, q + x) _ _ ?_ ?_ ?_ ?_
          · simp; omega
          · simp; omega
          · simp
          · simp
      · clear hrec
        rw [List.drop_eq_nil_of_le (by omega), weighI]
        by_cases h2 : v.ws.length = v.args.length
        · have hlt' : ¬ i < v.args.length := by omega
          by_cases h6 : k = 6
          · simp [round, Tryz.f87, a87, reg87, loop87, hlt', h2, h6]
          · by_cases h7 : 0 < v.args.length
            · simp [round, Tryz.f87, a87, reg87, loop87, hlt', h2, h6, h7]
            · simp [round, Tryz.f87, a87, reg87, loop87, hlt', h2, h6, h7, show ¬ (0 : Int) < v.args.length by omega]
        · simp [round, Tryz.f87, a87, reg87, loop87, hlt, h2, show ¬ (v.ws.length : Int) = v.args.length by omega]
set_option maxHeartbeats 4000000 in
theorem ev_RCompare (N : Nat) : ∀ (u : Val), u.nodes ≤ N → u.nodes ≤ 1000000000 → slimV u → ∀ (v : Val) (m : Mem), evCall C0 24 [.agg u.cells, .agg v.cells] m = some (.ret (.int .i64 (cmpV u v)), m) := by
  induction N with
  | zero => intro u hN; have := u.nodes_pos; omega
  | succ N ih =>
  intro u hN hb hs v m
  rw [slimV_eq] at hs
  have hlen := u.length_args
  rw [evCall_body C0 (C0_ext _ (by decide)) (by rw [C0_P]; exact Tryz.func24) rfl (by rw [C0_ann]; rfl) (by decide) (by simp [Tryz.f24])]
  rw [cmpV_eq]
  by_cases c1 : u.num = v.num
  case neg =>
    have he := ev_rorder u.num v.num
    rw [if_neg (fun h => c1 (numC_zero.1 h))]
    simp [Tryz.f24, a24, reg24, loop24, draw24, dok24, c1, he]
  rw [if_pos (numC_zero.2 c1)]
  simp [Tryz.f24, a24, reg24, loop24, draw24, dok24, c1]
  refine loop_in (fun i : Nat => ⟨[(2, .ptr m.bx.length 0), (3, .ptr (m.bx.length + 1) 0), (5, .int .i64 i)], ⟨m.bx ++ [u.cells, v.cells], m.rw⟩⟩)
    (fun i => some (.ret (.int .i64 (if cmpL (u.args.drop i) (v.args.drop i) = 0 then lexI u.ws v.ws else cmpL (u.args.drop i) (v.args.drop i))), m)) (fun i => u.args.length - i) (fun i => i ≤ u.args.length ∧ i ≤ v.args.length) 0 ?_ ?_ ?_ ?_ ?_
  · simp [c1]
  · simp
  · simp
  · intro x; simp [Tryz.f24, a24, reg24, loop24, draw24, dok24]
  · rintro i ⟨hi, hi'⟩ hrec
    by_cases hlt : i < u.args.length
    · by_cases hlt' : i < v.args.length
      · have w2 : IntKind.i64.wrap (i + 1) = i + 1 := wrap_id _ (by omega)
        have m0 := Val.nodes_arg (List.getElem_mem hlt)
        have he := ih u.args[i] (by omega) (by omega) (slimL_mem hs.2 (List.getElem_mem hlt)) v.args[i]
        simp at he
        have h3 : (i + 1) * 3 ≤ u.args.length * 3 := by omega
        have h4 : (i + 1) * 3 ≤ v.args.length * 3 := by omega
        rw [cmpL_drop hlt hlt']
        by_cases hc : cmpV u.args[i] v.args[i] = 0
        · simp [hc] at he
          simp [round, Tryz.f24, a24, reg24, loop24, draw24, dok24, hlt, hlt', w2, h3, h4, he, hc, endRound_M]
          refine hrec (i + 1) _ _ ?_ ?_ ?_ ?_
          · omega
          · omega
          · simp
          · simp
        · clear hrec
          simp [round, Tryz.f24, a24, reg24, loop24, draw24, dok24, hlt, hlt', w2, h3, h4, he, hc]
      · clear hrec
        have hv : i = v.args.length := by omega
        have he := ev_rorder u.args.length v.args.length
        have hnc : numC (u.args.length : Int) v.args.length = 1 := by unfold numC; rw [if_neg (by omega), if_pos (by omega)]
        rw [cmpL_long hlt hlt']
        simp [round, Tryz.f24, a24, reg24, loop24, draw24, dok24, hlt, hlt', he, hnc, show ¬ (u.args.length : Int) = v.args.length by omega]
    · by_cases hlt' : i < v.args.length
      · clear hrec
        have he := ev_rorder u.args.length v.args.length
        have hnc : numC (u.args.length : Int) v.args.length = -1 := by unfold numC; rw [if_pos (by omega)]
        rw [cmpL_short hlt hlt']
        simp [round, Tryz.f24, a24, reg24, loop24, draw24, dok24, hlt, hlt', he, hnc, show ¬ (u.args.length : Int) = v.args.length by omega]
      · clear hrec ih
        have hu : i = u.args.length := by omega
        have hv : i = v.args.length := by omega
        have hl : u.args.length = v.args.length := by omega
        rw [cmpL_end hlt hlt', if_pos rfl]
        simp [round, Tryz.f24, a24, reg24, loop24, draw24, dok24, hlt, hlt', hl]
        refine loop_in (fun i : Nat => ⟨[(2, .ptr m.bx.length 0), (3, .ptr (m.bx.length + 1) 0), (7, .int .i64 i)], ⟨m.bx ++ [u.cells, v.cells], m.rw⟩⟩)
          (fun i => some (.ret (.int .i64 (lexI (u.ws.drop i) (v.ws.drop i))), m)) (fun i => u.ws.length - i) (fun i => i ≤ u.ws.length ∧ i ≤ v.ws.length) 0 ?_ ?_ ?_ ?_ ?_
        · simp [hl]
        · simp
        · simp
        · intro x; simp [Tryz.f24, a24, reg24, loop24, draw24, dok24]
        · rintro j ⟨hj, hj'⟩ hrec
          by_cases hjt : j < u.ws.length
          · by_cases hjt' : j < v.ws.length
            · have w2 : IntKind.i64.wrap (j + 1) = j + 1 := wrap_id _ (by omega)
              have a1 := ints_at hjt
              have a2 := ints_at hjt'
              have h3 : j + 1 ≤ u.ws.length := by omega
              have h4 : j + 1 ≤ v.ws.length := by omega
              have he := ev_rorder u.ws[j] v.ws[j]
              rw [lexI_drop hjt hjt']
              generalize u.ws[j] = x at a1 he ⊢
              generalize v.ws[j] = y at a2 he ⊢
              by_cases hc : x = y
              · rw [if_pos (numC_zero.2 hc)]
                simp [round, Tryz.f24, a24, reg24, loop24, draw24, dok24, hjt, hjt', w2, h3, h4, a1, a2, hc, endRound_M]
                refine hrec (j + 1) _ _ ?_ ?_ ?_ ?_
                · omega
                · omega
                · simp
                · simp
              · clear hrec
                rw [if_neg (fun h => hc (numC_zero.1 h))]
                simp [round, Tryz.f24, a24, reg24, loop24, draw24, dok24, hjt, hjt', w2, h3, h4, a1, a2, hc, he]
            · clear hrec
              have he := ev_rorder u.ws.length v.ws.length
              have hnc : numC (u.ws.length : Int) v.ws.length = 1 := by unfold numC; rw [if_neg (by omega), if_pos (by omega)]
              rw [lexI_long hjt hjt']
              simp [round, Tryz.f24, a24, reg24, loop24, draw24, dok24, hjt, hjt', he, hnc]
          · by_cases hjt' : j < v.ws.length
            · clear hrec
              have he := ev_rorder u.ws.length v.ws.length
              have hnc : numC (u.ws.length : Int) v.ws.length = -1 := by unfold numC; rw [if_pos (by omega)]
              rw [lexI_short hjt hjt']
              simp [round, Tryz.f24, a24, reg24, loop24, draw24, dok24, hjt, hjt', he, hnc]
            · clear hrec
              have he := ev_rorder u.ws.length v.ws.length
              have hnc : numC (u.ws.length : Int) v.ws.length = 0 := by unfold numC; rw [if_neg (by omega), if_neg (by omega)]
              rw [lexI_end hjt hjt']
              simp [round, Tryz.f24, a24, reg24, loop24, draw24, dok24, hjt, hjt', he, hnc]
theorem ev_RSameV (u v : Val) (hb : u.nodes ≤ 1000000000) (hs : slimV u) (m : Mem) : evCall C0 14 [.agg u.cells, .agg v.cells] m = some (.ret (.bool (decide (cmpV u v = 0))), m) := by
  rw [evCall_body C0 (C0_ext _ (by decide)) (by rw [C0_P]; exact Tryz.func14) rfl (by rw [C0_ann]; rfl) (by decide) (by simp [Tryz.f14])]
  have he := ev_RCompare u.nodes u (Nat.le_refl _) hb hs v
  simp at he
  simp [Tryz.f14, a14, reg14, he]
def partsL (f : Fun) (v : Val) : List Fun := if f.kind = 0 ∨ f.kind = 1 then [] else if f.kind = 2 then f.args else if f.kind = 3 then (if 0 ≤ v.num ∧ v.num ≤ 1 then [argF f v.num 0] else []) else if f.kind = 4 then List.replicate f.num.toNat (f.args.getD 0 fun0) else List.replicate v.args.length (f.args.getD 0 fun0)
def partsB (f : Fun) (v : Val) : Bool := decide ((partsL f v).length = v.args.length) && (!decide (f.kind = 3) || decide (0 ≤ v.num ∧ v.num ≤ 1))
def repA (n i : Nat) : A := if i = 0 then .nils else .sl n (i * 3) 0 i
def repR (g : Fun) (i : Nat) : List Row := if i = 0 then [] else [⟨24, Fun.cellsL (List.replicate i g)⟩]
theorem cells_rep (g : Fun) (i : Nat) : Fun.cellsL (List.replicate (i + 1) g) = Fun.cellsL (List.replicate i g) ++ g.cells := by
  rw [List.replicate_succ', Fun.cellsL_append, Fun.cellsL, Fun.cellsL_nil, List.append_nil]
set_option maxHeartbeats 4000000 in
theorem ev_Parts (f : Fun) (v : Val) (hf : shapedF f = true) (hb : v.nodes ≤ 1000000000) (m : Mem) : evCall C0 37 [.agg f.cells, .agg v.cells] m = some (.ret (.tup [.isl false (partsL f v).length (Fun.cellsL (partsL f v)), .bool (partsB f v)]), m) := by
  rw [evCall_body C0 (C0_ext _ (by decide)) (by rw [C0_P]; exact Tryz.func37) rfl (by rw [C0_ann]; rfl) (by decide) (by simp [Tryz.f37])]
  have wr2 : IntKind.i64.wrap 2 = 2 := by decide
  have hlen := v.length_args
  unfold partsB partsL
  rcases shaped_kind hf with ⟨hk, hfl⟩ | ⟨hk, hfl⟩ | ⟨hk, hfl⟩ | ⟨hk, hfl⟩ | ⟨hk, hfl⟩ | ⟨hk, hfl⟩ | ⟨hk, hfl⟩ | ⟨hk, hfl⟩
  · by_cases h0 : v.args.length = 0
    · simp [Tryz.f37, a37, reg37, loop37, draw37, dok37, hk, h0]
    · simp [Tryz.f37, a37, reg37, loop37, draw37, dok37, hk, h0, show ¬ (0 : Int) = v.args.length by omega, show ¬ 0 = v.args.length by omega]
  · by_cases h0 : v.args.length = 0
    · simp [Tryz.f37, a37, reg37, loop37, draw37, dok37, hk, h0]
    · simp [Tryz.f37, a37, reg37, loop37, draw37, dok37, hk, h0, show ¬ (0 : Int) = v.args.length by omega, show ¬ 0 = v.args.length by omega]
  · by_cases h0 : v.args.length = 2
    · simp [Tryz.f37, a37, reg37, loop37, draw37, dok37, hk, hfl, h0]
    · simp [Tryz.f37, a37, reg37, loop37, draw37, dok37, hk, hfl, h0, show ¬ (2 : Int) = v.args.length by omega, show ¬ 2 = v.args.length by omega]
  · by_cases h1 : v.num < 0
    · simp [Tryz.f37, a37, reg37, loop37, draw37, dok37, hk, hfl, h1, show ¬ 0 ≤ v.num by omega]
    by_cases h2 : 1 < v.num
    · simp [Tryz.f37, a37, reg37, loop37, draw37, dok37, hk, hfl, h1, h2, show ¬ v.num ≤ 1 by omega]
    rcases (show v.num = 0 ∨ v.num = 1 by omega) with cn | cn
    · have g0 : argF f v.num 0 = f.args[0] := by unfold argF; rw [if_neg (by omega), if_pos hk, cn, List.getD_eq_getElem?_getD, List.getElem?_eq_getElem (by simp; omega)]; rfl
      rw [cn] at g0
      have b1 := Fun.at_cellsL f.args 0 (by omega)
      simp at b1
      by_cases h0 : v.args.length = 1
      · simp [Tryz.f37, a37, reg37, loop37, draw37, dok37, hk, hfl, cn, h0, g0, b1, wr2, Fun.cellsL]
      · simp [Tryz.f37, a37, reg37, loop37, draw37, dok37, hk, hfl, cn, h0, g0, b1, wr2, Fun.cellsL, show ¬ (1 : Int) = v.args.length by omega, show ¬ 1 = v.args.length by omega]
    · have g0 : argF f v.num 0 = f.args[1] := by unfold argF; rw [if_neg (by omega), if_pos hk, cn, List.getD_eq_getElem?_getD, List.getElem?_eq_getElem (by simp; omega)]; rfl
      rw [cn] at g0
      have b1 := Fun.at_cellsL f.args 1 (by omega)
      simp at b1
      have b2 : List.drop 3 (List.take 6 (Fun.cellsL f.args)) = List.take 3 (List.drop 3 (Fun.cellsL f.args)) := by rw [List.drop_take]
      by_cases h0 : v.args.length = 1
      · simp [Tryz.f37, a37, reg37, loop37, draw37, dok37, hk, hfl, cn, h0, g0, b2, b1, wr2, Fun.cellsL]
      · simp [Tryz.f37, a37, reg37, loop37, draw37, dok37, hk, hfl, cn, h0, g0, b2, b1, wr2, Fun.cellsL, show ¬ (1 : Int) = v.args.length by omega, show ¬ 1 = v.args.length by omega]
  · have f0 : 0 < f.args.length := by omega
    have b1 := Fun.at_cellsL f.args 0 f0
    simp at b1
    have hfn := shaped_num hf
    obtain ⟨k, hkn⟩ : ∃ k : Nat, f.num = k := ⟨f.num.toNat, by omega⟩
    have gd : f.args.getD 0 fun0 = f.args[0] := by rw [List.getD_eq_getElem?_getD, List.getElem?_eq_getElem f0]; rfl
    rw [if_neg (by omega), if_neg (by omega), if_neg (by omega), if_pos hk, gd]
    simp [Tryz.f37, a37, reg37, loop37, draw37, dok37, hk, hkn]
    rw [loop_mp (fun i : Nat => ⟨[(2, .ptr m.bx.length 0), (3, .ptr (m.bx.length + 1) 0), (6, repA m.rw.length i), (60, .int .i64 k), (61, .int .i64 i)], ⟨m.bx ++ [f.cells, v.cells], m.rw ++ repR f.args[0] i⟩⟩)
      (fun i => some (.normal, ⟨[(2, .ptr m.bx.length 0), (3, .ptr (m.bx.length + 1) 0), (6, repA m.rw.length k), (60, .int .i64 k), (61, .int .i64 k), (62, .bool false)], ⟨m.bx ++ [f.cells, v.cells], m.rw ++ repR f.args[0] k⟩⟩)) (fun i => k - i) (fun i => i ≤ k) 0 ?_ rfl ?_ ?_ ?_]
    · obtain ⟨j, rfl⟩ : ∃ j, k = j + 1 := ⟨k - 1, by omega⟩
      have h8 : (Fun.cellsL (List.replicate (j + 1) f.args[0])).take ((j + 1) * 3) = Fun.cellsL (List.replicate (j + 1) f.args[0]) := List.take_of_length_le (by simp)
      by_cases h0 : j + 1 = v.args.length
      · have h0' : (j : Int) + 1 = v.args.length := by omega
        simp [Tryz.f37, a37, reg37, loop37, draw37, dok37, repA, repR, h0', h8]
        exact h0
      · have h0' : ¬ (j : Int) + 1 = v.args.length := by omega
        simp [Tryz.f37, a37, reg37, loop37, draw37, dok37, repA, repR, h0, h0', h8]
    · simp [Tryz.f37, a37, reg37, loop37, draw37, dok37, hk, hkn, repA, repR]
    · omega
    · intro x; simp [Tryz.f37, a37, reg37, loop37, draw37, dok37]
    · intro i hi hrec
      by_cases hlt : i < k
      · have w2 : IntKind.i64.wrap (i + 1) = i + 1 := wrap_id _ (by omega)
        have h4 : (i + 1) * 40 ≤ 70368744177664 := by omega
        have h5 : i + 1 ≤ 70368744177664 := by omega
        cases i with
        | zero =>
          simp [round, Tryz.f37, a37, reg37, loop37, draw37, dok37, hlt, f0, show 3 ≤ f.args.length * 3 by omega, b1, repA, repR, endRound_R0]
          refine hrec 1 _ _ ?_ ?_ ?_ ?_
          · omega
          · omega
          · simp [repA, repR, cells_rep, Fun.cellsL]
          · simp [repA, repR]
        | succ j =>
          have h6 : (j + 1 + 1) * 40 ≤ 70368744177664 := by omega
          have h7 : j + 1 + 1 ≤ 70368744177664 := by omega
          simp at w2
          simp [round, Tryz.f37, a37, reg37, loop37, draw37, dok37, show (j : Int) + 1 < k by omega, w2, h6, h7, f0, show 3 ≤ f.args.length * 3 by omega, b1, repA, repR, endRound_R]
          refine hrec (j + 1 + 1) _ _ ?_ ?_ ?_ ?_
          · omega
          · omega
          · simp [repA, repR, cells_rep, Fun.cellsL]
          · simp [repA, repR]
      · clear hrec
        have : i = k := by omega
        subst this
        cases i with
        | zero => omega
        | succ j => simp [round, Tryz.f37, a37, reg37, loop37, draw37, dok37, repA, repR]
  all_goals
    have f0 : 0 < f.args.length := by omega
    have b1 := Fun.at_cellsL f.args 0 f0
    simp at b1
    have gd : f.args.getD 0 fun0 = f.args[0] := by rw [List.getD_eq_getElem?_getD, List.getElem?_eq_getElem f0]; rfl
    rw [if_neg (by omega), if_neg (by omega), if_neg (by omega), if_neg (by omega), gd]
    simp [Tryz.f37, a37, reg37, loop37, draw37, dok37, hk]
    rw [loop_mp (fun i : Nat => ⟨[(2, .ptr m.bx.length 0), (3, .ptr (m.bx.length + 1) 0), (6, repA m.rw.length i), (9, .int .i64 v.args.length), (10, .int .i64 i)], ⟨m.bx ++ [f.cells, v.cells], m.rw ++ repR f.args[0] i⟩⟩)
      (fun i => some (.normal, ⟨[(2, .ptr m.bx.length 0), (3, .ptr (m.bx.length + 1) 0), (6, repA m.rw.length v.args.length), (9, .int .i64 v.args.length), (10, .int .i64 v.args.length), (11, .bool false)], ⟨m.bx ++ [f.cells, v.cells], m.rw ++ repR f.args[0] v.args.length⟩⟩)) (fun i => v.args.length - i) (fun i => i ≤ v.args.length) 0 ?_ rfl ?_ ?_ ?_]
    · cases hl : v.args.length with
      | zero => simp [Tryz.f37, a37, reg37, loop37, draw37, dok37, repA, repR, hl]
      | succ j =>
        have h8 : (Fun.cellsL (List.replicate (j + 1) f.args[0])).take ((j + 1) * 3) = Fun.cellsL (List.replicate (j + 1) f.args[0]) := List.take_of_length_le (by simp)
        simp [Tryz.f37, a37, reg37, loop37, draw37, dok37, repA, repR, hl, h8]
    · simp [Tryz.f37, a37, reg37, loop37, draw37, dok37, hk, repA, repR]
    · omega
    · intro x; simp [Tryz.f37, a37, reg37, loop37, draw37, dok37]
    · intro i hi hrec
      by_cases hlt : i < v.args.length
      · have w2 : IntKind.i64.wrap (i + 1) = i + 1 := wrap_id _ (by omega)
        cases i with
        | zero =>
          simp [round, Tryz.f37, a37, reg37, loop37, draw37, dok37, hlt, f0, show 3 ≤ f.args.length * 3 by omega, b1, repA, repR, endRound_R0]
          refine hrec 1 _ _ ?_ ?_ ?_ ?_
          · omega
          · omega
          · simp [repA, repR, cells_rep, Fun.cellsL]
          · simp [repA, repR]
        | succ j =>
          have h6 : (j + 1 + 1) * 40 ≤ 70368744177664 := by omega
          have h7 : j + 1 + 1 ≤ 70368744177664 := by omega
          simp at w2
          simp [round, Tryz.f37, a37, reg37, loop37, draw37, dok37, show (j : Int) + 1 < v.args.length by omega, w2, h6, h7, f0, show 3 ≤ f.args.length * 3 by omega, b1, repA, repR, endRound_R]
          refine hrec (j + 1 + 1) _ _ ?_ ?_ ?_ ?_
          · omega
          · omega
          · simp [repA, repR, cells_rep, Fun.cellsL]
          · simp [repA, repR]
      · clear hrec
        have hl : i = v.args.length := by omega
        subst hl
        cases hl : v.args.length with
        | zero => simp [round, Tryz.f37, a37, reg37, loop37, draw37, dok37, repA, repR]
        | succ j => simp [round, Tryz.f37, a37, reg37, loop37, draw37, dok37, repA, repR]
mutual
def mapV (t : Int → Val) : Val → Fun → Val
  | .mk k l w, f => if f.kind = 0 then t k else if f.kind = 1 then .mk k [] [] else if f.kind = 2 then .mk 0 (mapL t l (argF f k) 0) [] else if f.kind = 3 then .mk k (mapL t l (argF f k) 0) [] else if f.kind = 4 then .mk 0 (mapL t l (argF f k) 0) [] else mergeV f.kind 0 (mapL t l (argF f k) 0) w
def mapL (t : Int → Val) : List Val → (Nat → Fun) → Nat → List Val
  | [], _, _ => []
  | v :: r, g, i => mapV t v (g i) :: mapL t r g (i + 1)
end
def idV (x : Int) : Val := .mk x [] []
theorem mapV_eq (t : Int → Val) (v : Val) (f : Fun) : mapV t v f = if f.kind = 0 then t v.num else if f.kind = 1 then .mk v.num [] [] else if f.kind = 2 then .mk 0 (mapL t v.args (argF f v.num) 0) [] else if f.kind = 3 then .mk v.num (mapL t v.args (argF f v.num) 0) [] else if f.kind = 4 then .mk 0 (mapL t v.args (argF f v.num) 0) [] else mergeV f.kind 0 (mapL t v.args (argF f v.num) 0) v.ws := by cases v; rw [mapV]; rfl
theorem mapL_length (t : Int → Val) : ∀ (l : List Val) (g : Nat → Fun) (i : Nat), (mapL t l g i).length = l.length
  | [], g, i => by rw [mapL]
  | v :: r, g, i => by rw [mapL, List.length_cons, List.length_cons, mapL_length t r g (i + 1)]
theorem mapL_drop {t : Int → Val} {l : List Val} {i : Nat} (h : i < l.length) (g : Nat → Fun) : mapL t (l.drop i) g i = mapV t l[i] (g i) :: mapL t (l.drop (i + 1)) g (i + 1) := by rw [List.drop_eq_getElem_cons h, mapL]
theorem head_num {n : Int} {f : Fun} {k : Int} {m : Nat} {w : List Int} (h : headL n f k m w = true) : (f.kind ≠ 0 → f.kind ≠ 1 → f.kind ≠ 3 → k = 0) ∧ (wtd f.kind = false → w = []) ∧ ((f.kind = 0 ∨ f.kind = 1) → m = 0) := by
  unfold headL at h
  simp only [Bool.and_eq_true, decide_eq_true_eq] at h
  obtain ⟨⟨h1, h2⟩, h3⟩ := h
  refine ⟨fun a b c => ?_, fun a => ?_, fun a => ?_⟩
  · rw [if_neg a, if_neg b, if_neg c] at h2
    omega
  · rw [a] at h3
    simpa using h3
  · rw [if_pos a] at h1
    simpa using h1
mutual
theorem norm_map (n : Int) : ∀ (v : Val) (f : Fun), shapedF f = true → okV exL n v f = true → normV n v f = some (mapV idV v f)
  | .mk k l w, f, hf, h => by
    rw [okV, Bool.and_eq_true, Bool.and_eq_true] at h
    obtain ⟨⟨hh, _⟩, hl⟩ := h
    obtain ⟨n1, n2, n3⟩ := head_num hh
    have hk := shaped_kind hf
    rw [normV, if_pos hh, mapV]
    by_cases h0 : f.kind = 0
    · have : l = [] := List.eq_nil_of_length_eq_zero (n3 (.inl h0))
      subst this
      rw [normL, n2 (by rw [h0]; rfl)]
      simp [h0, setsK, wtd, idV]
    by_cases h1 : f.kind = 1
    · have : l = [] := List.eq_nil_of_length_eq_zero (n3 (.inr h1))
      subst this
      rw [normL, n2 (by rw [h1]; rfl)]
      simp [h1, setsK, wtd]
    rw [normL_map n l _ 0 (argF_shaped hf h0 h1 hh) hl, if_neg h0, if_neg h1, Option.map_some]
    by_cases h2 : f.kind = 2
    · rw [n1 h0 h1 (by omega), n2 (by rw [h2]; rfl)]
      simp [h2, setsK, wtd]
    by_cases h3 : f.kind = 3
    · rw [n2 (by rw [h3]; rfl)]
      simp [h3, setsK, wtd]
    by_cases h4 : f.kind = 4
    · rw [n1 h0 h1 h3, n2 (by rw [h4]; rfl)]
      simp [h4, setsK, wtd]
    rw [if_neg h2, if_neg h3, if_neg h4, n1 h0 h1 h3, if_pos]
    unfold setsK wtd
    simp only [Bool.or_eq_true, decide_eq_true_eq]
    omega
theorem normL_map (n : Int) : ∀ (l : List Val) (g : Nat → Fun) (i : Nat), (∀ j, j < l.length → shapedF (g (i + j)) = true) → okL exL n l g i = true → normL n l g i = some (mapL idV l g i)
  | [], g, i, _, h => by rw [normL, mapL]
  | v :: r, g, i, hg, h => by
    rw [okL, Bool.and_eq_true] at h
    rw [normL, mapL, norm_map n v (g i) (hg 0 (by simp)) h.1, normL_map n r g (i + 1) (fun j hj => by have := hg (j + 1) (by simpa using hj); rwa [show i + (j + 1) = i + 1 + j by omega] at this) h.2]
    rfl
theorem argF_shaped {n : Int} {f : Fun} {k : Int} {m : Nat} {w : List Int} (hf : shapedF f = true) (h0 : ¬ f.kind = 0) (h1 : ¬ f.kind = 1) (hh : headL n f k m w = true) : ∀ j, j < m → shapedF (argF f k (0 + j)) = true := by
  intro j hj
  have hk := shaped_kind hf
  rw [Nat.zero_add]
  unfold argF
  unfold headL at hh
  simp only [Bool.and_eq_true, decide_eq_true_eq] at hh
  obtain ⟨⟨g1, g2⟩, _⟩ := hh
  rw [if_neg (by omega)] at g1
  split
  · rename_i h2
    rw [if_pos h2] at g1
    simp only [decide_eq_true_eq] at g1
    rw [List.getD_eq_getElem?_getD, List.getElem?_eq_getElem (by omega)]
    exact shaped_arg hf (by omega)
  · rename_i h2
    rw [if_neg h2] at g1
    split
    · rename_i h3
      rw [if_pos h3] at g1
      simp only [decide_eq_true_eq] at g1
      rw [List.getD_eq_getElem?_getD, List.getElem?_eq_getElem (by omega)]
      exact shaped_arg hf (by omega)
    · rw [List.getD_eq_getElem?_getD, List.getElem?_eq_getElem (by omega)]
      exact shaped_arg hf (by omega)
end
mutual
theorem norm_none (n : Int) : ∀ (v : Val) (f : Fun), okV exL n v f = false → normV n v f = none
  | .mk k l w, f, h => by
    rw [okV] at h
    rw [normV]
    split
    · rename_i hh
      rw [hh] at h
      have h' : okL exL n l (argF f k) 0 = false := by simpa [exL] using h
      rw [normL_none n l _ _ h', Option.map_none]
    · rfl
theorem normL_none (n : Int) : ∀ (l : List Val) (g : Nat → Fun) (i : Nat), okL exL n l g i = false → normL n l g i = none
  | [], g, i, h => by rw [okL] at h; cases h
  | v :: r, g, i, h => by
    rw [okL] at h
    rw [normL]
    cases h1 : okV exL n v (g i)
    · rw [norm_none n v _ h1]
      rfl
    · rw [h1, Bool.true_and] at h
      rw [normL_none n r _ _ h]
      cases normV n v (g i) <;> rfl
end
def wtP (u : Val) : List (Val × Int) → Int
  | [] => 0
  | p :: r => (if cmpV p.1 u = 0 then p.2 else 0) + wtP u r
theorem wtP_ins (u a : Val) (w : Int) : ∀ o : List (Val × Int), wtP u (insP a w o) = wtP u o + (if cmpV a u = 0 then w else 0)
  | [] => by simp [insP, wtP]
  | x :: r => by
    rw [insP]
    split
    · rename_i h
      rw [cmpV_zero] at h
      subst h
      simp only [wtP]
      split <;> omega
    · split
      · simp only [wtP]; omega
      · simp only [wtP, wtP_ins u a w r]; omega
theorem wtP_merge (u : Val) : ∀ l o : List (Val × Int), wtP u (mergeF o l) = wtP u l + wtP u o
  | [], o => by simp [mergeF, wtP]
  | p :: r, o => by
    rw [show mergeF o (p :: r) = mergeF (insP p.1 p.2 o) r from rfl, wtP_merge u r, wtP_ins, wtP]
    omega
theorem wtP_perm (u : Val) {l r : List (Val × Int)} (h : l.Perm r) : wtP u l = wtP u r := by
  induction h with
  | nil => rfl
  | cons x _ ih => rw [wtP, wtP, ih]
  | swap x y l => rw [wtP, wtP, wtP, wtP]; omega
  | trans _ _ ih1 ih2 => rw [ih1, ih2]
theorem insP_has {u : Val} {w : Int} : ∀ {o : List (Val × Int)} (v : Val), (∃ p, p ∈ insP u w o ∧ p.1 = v) ↔ v = u ∨ ∃ p, p ∈ o ∧ p.1 = v
  | [], v => by
    rw [insP]
    simp
    exact eq_comm
  | x :: r, v => by
    rw [insP]
    split
    · rename_i h
      rw [cmpV_zero] at h
      subst h
      simp only [List.mem_cons, exists_eq_or_imp]
      constructor
      · exact fun h => .inr h
      · rintro (h | h)
        · exact .inl h.symm
        · exact h
    · split
      · simp only [List.mem_cons, exists_eq_or_imp]
        constructor
        · rintro (h | h)
          · exact .inl h.symm
          · exact .inr h
        · rintro (h | h)
          · exact .inl h.symm
          · exact .inr h
      · simp only [List.mem_cons, exists_eq_or_imp, insP_has v]
        constructor
        · rintro (h | h | h)
          · exact .inr (.inl h)
          · exact .inl h
          · exact .inr (.inr h)
        · rintro (h | h | h)
          · exact .inr (.inl h)
          · exact .inl h
          · exact .inr (.inr h)
theorem mergeF_has (v : Val) : ∀ l o : List (Val × Int), (∃ p, p ∈ mergeF o l ∧ p.1 = v) ↔ (∃ p, p ∈ l ∧ p.1 = v) ∨ ∃ p, p ∈ o ∧ p.1 = v
  | [], o => by simp [mergeF]
  | x :: r, o => by
    rw [show mergeF o (x :: r) = mergeF (insP x.1 x.2 o) r from rfl, mergeF_has v r, insP_has]
    simp only [List.mem_cons, exists_eq_or_imp]
    constructor
    · rintro (h | h | h)
      · exact .inl (.inr h)
      · exact .inl (.inl h.symm)
      · exact .inr h
    · rintro ((h | h) | h)
      · exact .inr (.inl h.symm)
      · exact .inl h
      · exact .inr (.inr h)
theorem wtP_none {u : Val} : ∀ {l : List (Val × Int)}, (∀ p, p ∈ l → cmpV p.1 u ≠ 0) → wtP u l = 0
  | [], _ => rfl
  | p :: r, h => by rw [wtP, if_neg (h p List.mem_cons_self), wtP_none fun q hq => h q (List.mem_cons_of_mem _ hq)]; rfl
theorem lists_eq : ∀ {l r : List (Val × Int)}, l.Pairwise LtP → r.Pairwise LtP → (∀ v, (∃ p, p ∈ l ∧ p.1 = v) ↔ ∃ p, p ∈ r ∧ p.1 = v) → (∀ v, wtP v l = wtP v r) → l = r
  | [], [], _, _, _, _ => rfl
  | [], y :: r, _, _, h, _ => by obtain ⟨p, hp, _⟩ := (h y.1).2 ⟨y, List.mem_cons_self, rfl⟩; cases hp
  | x :: l, [], _, _, h, _ => by obtain ⟨p, hp, _⟩ := (h x.1).1 ⟨x, List.mem_cons_self, rfl⟩; cases hp
  | x :: l, y :: r, hl, hr, h, hw => by
    rw [List.pairwise_cons] at hl hr
    have e : x.1 = y.1 := by
      obtain ⟨p, hp, e1⟩ := (h x.1).1 ⟨x, List.mem_cons_self, rfl⟩
      rcases List.mem_cons.1 hp with rfl | hp
      · exact e1.symm
      · obtain ⟨q, hq, e2⟩ := (h y.1).2 ⟨y, List.mem_cons_self, rfl⟩
        rcases List.mem_cons.1 hq with rfl | hq
        · exact e2
        · have h1 := hr.1 p hp
          have h2 := hl.1 q hq
          unfold LtP at h1 h2
          rw [e1] at h1
          rw [e2] at h2
          have := cmpV_anti x.1 y.1
          omega
    have nl : ∀ p, p ∈ l → cmpV p.1 x.1 ≠ 0 := fun p hp => by
      have := hl.1 p hp
      unfold LtP at this
      have := cmpV_anti x.1 p.1
      omega
    have nr : ∀ p, p ∈ r → cmpV p.1 x.1 ≠ 0 := fun p hp => by
      have := hr.1 p hp
      unfold LtP at this
      rw [← e] at this
      have := cmpV_anti x.1 p.1
      omega
    have e2 : x.2 = y.2 := by
      have := hw x.1
      rw [wtP, wtP, wtP_none nl, wtP_none nr, ← e, cmpV_self] at this
      simpa using this
    have hxy : x = y := Prod.ext e e2
    subst hxy
    rw [lists_eq hl.2 hr.2 (fun v => ?_) fun v => ?_]
    · constructor
      · rintro ⟨p, hp, rfl⟩
        obtain ⟨q, hq, e3⟩ := (h p.1).1 ⟨p, List.mem_cons_of_mem _ hp, rfl⟩
        rcases List.mem_cons.1 hq with rfl | hq
        · exact absurd ((cmpV_zero _ _).2 e3.symm) (nl p hp)
        · exact ⟨q, hq, e3⟩
      · rintro ⟨p, hp, rfl⟩
        obtain ⟨q, hq, e3⟩ := (h p.1).2 ⟨p, List.mem_cons_of_mem _ hp, rfl⟩
        rcases List.mem_cons.1 hq with rfl | hq
        · exact absurd ((cmpV_zero _ _).2 e3.symm) (nr p hp)
        · exact ⟨q, hq, e3⟩
    · have := hw v
      rw [wtP, wtP] at this
      omega
theorem merge_perm {l r : List (Val × Int)} (h : l.Perm r) : mergeF [] l = mergeF [] r :=
  lists_eq (mergeF_sorted _ _ List.Pairwise.nil) (mergeF_sorted _ _ List.Pairwise.nil)
    (fun v => by rw [mergeF_has, mergeF_has]; simp only [h.mem_iff]) (fun v => by rw [wtP_merge, wtP_merge, wtP_perm v h])
def posP (u : Val) : List (Val × Int) → Nat × Int
  | [] => (0, 1)
  | p :: r => if 0 < cmpV u p.1 then ((posP u r).1 + 1, (posP u r).2) else (0, cmpV u p.1)
theorem posP_drop {u : Val} {o : List (Val × Int)} {i : Nat} (h : i < o.length) : posP u (o.drop i) = if 0 < cmpV u o[i].1 then ((posP u (o.drop (i + 1))).1 + 1, (posP u (o.drop (i + 1))).2) else (0, cmpV u o[i].1) := by rw [List.drop_eq_getElem_cons h, posP]
theorem posP_le (u : Val) : ∀ o : List (Val × Int), (posP u o).1 ≤ o.length
  | [] => by rw [posP]; simp
  | p :: r => by
    rw [posP]
    have := posP_le u r
    split
    · simp; omega
    · simp
theorem posP_end (u : Val) : ∀ o : List (Val × Int), (posP u o).1 = o.length → (posP u o).2 = 1
  | [], _ => by rw [posP]
  | p :: r, h => by
    rw [posP] at h ⊢
    split at h
    · rename_i hc
      rw [if_pos hc]
      exact posP_end u r (by simpa using h)
    · simp at h
theorem posP_in (u : Val) : ∀ o : List (Val × Int), (h : (posP u o).1 < o.length) → (posP u o).2 = cmpV u (o[(posP u o).1]).1 ∧ (posP u o).2 ≤ 0
  | p :: r, h => by
    by_cases hc : 0 < cmpV u p.1
    · have e : posP u (p :: r) = ((posP u r).1 + 1, (posP u r).2) := by rw [posP, if_pos hc]
      have h' : (posP u r).1 < r.length := by rw [e] at h; simpa using h
      have := posP_in u r h'
      simp only [e, List.getElem_cons_succ]
      exact this
    · have e : posP u (p :: r) = (0, cmpV u p.1) := by rw [posP, if_neg hc]
      simp only [e, List.getElem_cons_zero]
      exact ⟨trivial, by omega⟩
theorem insP_same {u : Val} {w : Int} : ∀ {o : List (Val × Int)}, (posP u o).2 = 0 → ∃ h : (posP u o).1 < o.length, insP u w o = o.set (posP u o).1 (o[(posP u o).1].1, o[(posP u o).1].2 + w) ∧ o[(posP u o).1].1 = u
  | [], h => by rw [posP] at h; cases h
  | p :: r, h => by
    by_cases hc : 0 < cmpV u p.1
    · have e : posP u (p :: r) = ((posP u r).1 + 1, (posP u r).2) := by rw [posP, if_pos hc]
      rw [e] at h
      obtain ⟨h1, h2, h3⟩ := insP_same (w := w) h
      refine ⟨by rw [e]; simpa using h1, ?_, ?_⟩
      · rw [insP, if_neg (by omega), if_neg (by omega), h2]
        simp only [e, List.set_cons_succ, List.getElem_cons_succ]
      · simp only [e, List.getElem_cons_succ]
        exact h3
    · have e : posP u (p :: r) = (0, cmpV u p.1) := by rw [posP, if_neg hc]
      rw [e] at h
      refine ⟨by rw [e]; simp, ?_, ?_⟩
      · rw [insP, if_pos h]
        simp only [e, List.set_cons_zero, List.getElem_cons_zero]
      · simp only [e, List.getElem_cons_zero]
        exact ((cmpV_zero _ _).1 h).symm
theorem insP_new {u : Val} {w : Int} : ∀ {o : List (Val × Int)}, (posP u o).2 ≠ 0 → insP u w o = o.take (posP u o).1 ++ (u, w) :: o.drop (posP u o).1
  | [], h => by rw [posP, insP]; rfl
  | p :: r, h => by
    by_cases hc : 0 < cmpV u p.1
    · have e : posP u (p :: r) = ((posP u r).1 + 1, (posP u r).2) := by rw [posP, if_pos hc]
      rw [e] at h ⊢
      rw [insP, if_neg (by omega), if_neg (by omega), insP_new h]
      rfl
    · have e : posP u (p :: r) = (0, cmpV u p.1) := by rw [posP, if_neg hc]
      rw [e] at h ⊢
      simp only at h
      rw [insP, if_neg h, if_pos (by omega)]
      rfl
theorem closed_up {nb nr : Nat} {cs : List A} (h : cs.all (closed 0 0) = true) : cs.all (closed nb nr) = true := by
  rw [List.all_eq_true] at h ⊢
  exact fun x hx => closed_mono (Nat.zero_le _) (Nat.zero_le _) x (h x hx)
theorem endRound_J {l : List Nat} {M L L' : List (List A)} {R J J' : List Row} {tm : List (Nat × A)} (hJ : J'.all (fun r => r.cs.all (closed 0 0)) = true) (hL : L.length ≤ L'.length) (hl : l.all (fun t => closed (M.length + L.length) (R.length + J'.length) (lk t tm)) = true) (hc : (L'.take L.length).all (fun cs => cs.all (closed (M.length + L.length) (R.length + J'.length))) = true) :
    endRound (some l) ⟨M ++ L, R ++ J⟩ ⟨tm, ⟨M ++ L', R ++ J'⟩⟩ = some ⟨prune (some l) tm, ⟨M ++ L'.take L.length, R ++ J'⟩⟩ := by
  refine endRound_R hL hl hc ?_
  rw [List.all_eq_true] at hJ ⊢
  exact fun r hr => closed_up (hJ r hr)
def mgA (id : Nat) (o : List (Val × Int)) : A := if o.length = 0 then .nils else .sl id (o.length * 3) 0 o.length
def mgW (k : Int) (id : Nat) (o : List (Val × Int)) : A := if wtd k = false ∨ o.length = 0 then .nils else .sl id o.length 0 o.length
structure MgS where
  i : Nat
  o : List (Val × Int)
  J : List Row
  ja : Nat
  jw : Nat
structure MgOk (k : Int) (nr : Nat) (s : MgS) : Prop where
  cl : s.J.all (fun r => r.cs.all (closed 0 0)) = true
  ra : 0 < s.o.length → s.J[s.ja]? = some ⟨28, Val.cellsL (s.o.map (·.1))⟩
  rw : 0 < s.o.length → wtd k = true → s.J[s.jw]? = some ⟨3, ints (s.o.map (·.2))⟩ ∧ s.ja ≠ s.jw
  ps : wtd k = true → ∀ p, p ∈ s.o → 1 ≤ p.2
theorem app_at {α : Type} (R J : List α) (j : Nat) : (R ++ J)[R.length + j]? = J[j]? := by
  rw [List.getElem?_append_right (by omega), Nat.add_sub_cancel_left]
theorem app_set {α : Type} (R J : List α) (j : Nat) (x : α) : (R ++ J).set (R.length + j) x = R ++ J.set j x := by
  rw [List.set_append_right _ _ (by omega), Nat.add_sub_cancel_left]
theorem take_cellsL (l : List Val) (a : Nat) (h : a ≤ l.length) : (Val.cellsL l).take (a * 3) = Val.cellsL (l.take a) := by
  have h1 : (Val.cellsL (l.take a)).length = a * 3 := by rw [Val.cellsL_length, List.length_take, Nat.min_eq_left h]
  have h2 : Val.cellsL l = Val.cellsL (l.take a) ++ Val.cellsL (l.drop a) := by rw [← Val.cellsL_append, List.take_append_drop]
  rw [h2, ← h1, List.take_left]
theorem drop_cellsL (l : List Val) (a : Nat) (h : a ≤ l.length) : (Val.cellsL l).drop (a * 3) = Val.cellsL (l.drop a) := by
  have h1 : (Val.cellsL (l.take a)).length = a * 3 := by rw [Val.cellsL_length, List.length_take, Nat.min_eq_left h]
  have h2 : Val.cellsL l = Val.cellsL (l.take a) ++ Val.cellsL (l.drop a) := by rw [← Val.cellsL_append, List.take_append_drop]
  rw [h2, ← h1, List.drop_left]
theorem cells_ins (o : List (Val × Int)) (a : Nat) (u : Val) (w : Int) (h : a ≤ o.length) : (Val.cellsL (o.map (·.1))).take (a * 3) ++ (u.cells ++ (Val.cellsL (o.map (·.1))).drop (a * 3)) = Val.cellsL ((o.take a ++ (u, w) :: o.drop a).map (·.1)) := by
  rw [take_cellsL _ _ (by simpa using h), drop_cellsL _ _ (by simpa using h), List.map_append, Val.cellsL_append, List.map_cons, Val.cellsL, List.map_take, List.map_drop]
theorem all_set {p : Row → Bool} {J : List Row} (h : J.all p = true) (i : Nat) (r : Row) (hr : p r = true) : (J.set i r).all p = true := by
  rw [List.all_eq_true] at h ⊢
  intro x hx
  rcases List.mem_or_eq_of_mem_set hx with h1 | h1
  · exact h x h1
  · rw [h1]; exact hr
theorem sum_pos : ∀ {o : List (Val × Int)}, (∀ p, p ∈ o → 1 ≤ p.2) → 0 ≤ (o.map (·.2)).sum
  | [], _ => by simp
  | p :: r, h => by
    have := sum_pos fun q hq => h q (List.mem_cons_of_mem _ hq)
    have := h p List.mem_cons_self
    simp
    omega
theorem mem_sum : ∀ {o : List (Val × Int)} {q : Val × Int}, (∀ p, p ∈ o → 1 ≤ p.2) → q ∈ o → q.2 ≤ (o.map (·.2)).sum
  | p :: r, q, h, hq => by
    have h1 := sum_pos fun q hq => h q (List.mem_cons_of_mem p hq)
    have h2 := h p List.mem_cons_self
    simp only [List.map_cons, List.sum_cons]
    rcases List.mem_cons.1 hq with rfl | hq
    · omega
    · have := mem_sum (fun q hq => h q (List.mem_cons_of_mem p hq)) hq
      omega
theorem int_sum_pos : ∀ {o : List Int}, (∀ p, p ∈ o → 1 ≤ p) → 0 ≤ o.sum
  | [], _ => by simp
  | p :: r, h => by
    have := int_sum_pos fun q hq => h q (List.mem_cons_of_mem _ hq)
    have := h p List.mem_cons_self
    simp
    omega
theorem merge_bounds {k : Int} {v : Val} {o : List (Val × Int)} {i : Nat} (hk : wtd k = true) (hw : wtd k = true → v.ws.length = v.args.length ∧ (∀ w, w ∈ v.ws → 1 ≤ w) ∧ v.ws.sum ≤ 1048576) (hmg : mergeF o ((v.args.zip (wsOf k v.args v.ws)).drop i) = mergeP k v.args v.ws) (hlt : i < v.args.length) (hps : ∀ p, p ∈ o → 1 ≤ p.2) :
    ∃ h : i < v.ws.length, (wsOf k v.args v.ws).getD i 0 = v.ws[i] ∧ 1 ≤ v.ws[i] ∧ v.ws[i] ≤ 1048576 - (o.map (·.2)).sum ∧ (∀ p, p ∈ o → 1 ≤ p.2) := by
  obtain ⟨h1, h2, h3⟩ := hw hk
  have hz : wsOf k v.args v.ws = v.ws := by unfold wsOf; rw [hk, if_pos rfl]
  have hi : i < v.ws.length := by omega
  refine ⟨hi, ?_, h2 _ (List.getElem_mem hi), ?_, hps⟩
  · rw [hz, List.getD_eq_getElem?_getD, List.getElem?_eq_getElem hi]; rfl
  · have e := congrArg (fun l : List (Val × Int) => (l.map (·.2)).sum) hmg
    simp only [mergeP] at e
    rw [mergeF_sum, mergeF_sum, hz, zip_snd_map h1, List.map_drop, zip_snd_map h1, List.drop_eq_getElem_cons hi, List.sum_cons] at e
    have h4 : 0 ≤ (v.ws.drop (i + 1)).sum := int_sum_pos fun p hp => h2 p (List.mem_of_mem_drop hp)
    simp at e
    omega
theorem mgW_closed {k : Int} {n jw : Nat} {J : List Row} {o : List (Val × Int)} {p : Prop} (h : 0 < o.length → wtd k = true → J[jw]? = some ⟨3, ints (o.map (·.2))⟩ ∧ p) (nb : Nat) : closed nb (n + J.length) (mgW k (n + jw) o) = true := by
  unfold mgW
  split
  · simp
  · rename_i hc
    simp only [not_or, Bool.not_eq_false] at hc
    have := (List.getElem?_eq_some_iff.1 (h (by omega) hc.1).1).1
    simp
    omega
end AE
end Go.Proofs.YthoomlenmgdebaaGreatDoor
