/- The code's functions about functors, on. -/
import Derived.Test.YthoomlenmgdebaaGreatDoorAF3
set_option linter.unusedVariables false
set_option linter.unusedSimpArgs false
namespace Go.Proofs.YthoomlenmgdebaaGreatDoor
namespace AE
open Go

def okF (f : Fun) : Bool := (validF f 20 1).1
theorem ev_Valid (f : Fun) (hb : f.nodes ≤ 1000000000) (m : Mem) : evCall C0 72 [.agg f.cells] m = some (.ret (.bool (okF f)), m) := by
  rw [evCall_body C0 (C0_ext _ (by decide)) (by rw [C0_P]; exact Tryz.func72) rfl (by rw [C0_ann]; rfl) (by decide) (by simp [Tryz.f72])]
  have he := ev_valid (m.bx.length + 1) f.nodes f (Nat.le_refl _) hb 20 1 ⟨m.bx ++ [f.cells, [.int .i64 20]], m.rw⟩ (by omega) (by omega) (by omega) (by omega) (by simp)
  simp at he
  simp [Tryz.f72, evOps_cons, wantA_some, argsTm, ann_keep_72, ann_recov_72, ann_reg_72, reg72, he, okF]
def idxL (q : Fun → Bool) : List Fun → Nat → Int
  | [], _ => -1
  | f :: r, i => if q f then i else idxL q r (i + 1)
theorem idxL_any (q : Fun → Bool) : ∀ (l : List Fun) (i : Nat), decide (0 ≤ idxL q l i) = l.any q
  | [], _ => by rw [idxL]; rfl
  | f :: r, i => by
    rw [idxL, List.any_cons]
    cases q f with
    | true => simp
    | false => simp [idxL_any q r (i + 1)]
theorem idxL_drop {q : Fun → Bool} {l : List Fun} {i : Nat} (h : i < l.length) : idxL q (l.drop i) i = if q l[i] then (i : Int) else idxL q (l.drop (i + 1)) (i + 1) := by rw [List.drop_eq_getElem_cons h, idxL]
end AE
end Go.Proofs.YthoomlenmgdebaaGreatDoor
