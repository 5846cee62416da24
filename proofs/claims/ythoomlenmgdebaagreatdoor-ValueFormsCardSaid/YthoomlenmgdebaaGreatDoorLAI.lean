/- The tables, as they lie when the call begins. -/
import Derived.Test.YthoomlenmgdebaaGreatDoorLA0
set_option linter.unusedVariables false
set_option linter.unusedSimpArgs false
namespace Go.Proofs.YthoomlenmgdebaaGreatDoor
namespace AE
open Go Go.RowKit

theorem gl_of_laid {W : World} {laid : List (String × DataW Unit)} (hp : (laid.all fun x => x.2.handleName?.isNone) = true) (hmm : ("ectype/functor.forms", Rows.laid_ectype_functor_forms) ∈ laid) (h : laidMetH Tryz.prog laid W) : ∀ n, VR W (g0 W) (gl0 n) (.pointer (some ⟨n, 0, none⟩)) := by
  rw [MakeChecks.laidMetH_plain _ _ _ hp] at h
  obtain ⟨ps, hl, _, _⟩ := h
  obtain ⟨g, t, cs, fuel, p, h1, h2, h3, h4⟩ := laidVars_mem (n := "ectype/functor.forms") (d := Rows.laid_ectype_functor_forms) hl hmm
  obtain rfl := Option.some.inj (gForms.symm.trans h1)
  obtain rfl := Option.some.inj (tForms.symm.trans h2)
  have hcs := forms_cells h4
  intro n
  unfold gl0
  split
  · rename_i hn
    subst hn
    rw [VR]
    refine ⟨0, 0, formsV, rfl, formsV_VRs, fun j u hj => ?_⟩
    have hc : W.cell? ⟨0, 0 + j, none⟩ = some u := by
      rw [Nat.zero_add, World.var?_cell gForms h3 j, ← Array.getElem?_toList, hcs]
      exact hj
    exact ⟨(cell_lt hc).1, hc⟩
  · rw [VR]; trivial
end AE
end Go.Proofs.YthoomlenmgdebaaGreatDoor
