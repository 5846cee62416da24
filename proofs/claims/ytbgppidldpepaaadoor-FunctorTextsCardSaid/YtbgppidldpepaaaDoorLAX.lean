/- The tables and the error, as they lie when the call begins. -/
import Derived.Test.YtbgppidldpepaaaDoorLA0
import Derived.LaidLaws
set_option linter.unusedVariables false
set_option linter.unusedSimpArgs false
namespace Go.Proofs.YtbgppidldpepaaaDoor
namespace AE
open Go Go.RowKit

set_option maxRecDepth 1000000 in
theorem gErr : Tryd.prog.globalNamed "strconv.ErrRange" = some 5 := by kernel_rfl
set_option maxRecDepth 1000000 in
theorem tErr : (Tryd.prog.globals[5]?).map (·.type) = some 89 := by kernel_rfl
theorem starErr : "*" ++ "errors.errorString" = "*errors.errorString" := by decide
theorem nameErr (u : TypeId) (h : Tryd.prog.typeName? 3 u = some "*errors.errorString") : u = 133 :=
  typeName_ptr_named (nm := "errors.errorString") (by rw [starErr]; kernel_rfl) (by kernel_rfl) (by decide) u (by rw [starErr]; exact h)
theorem VR_str {w : World} {g : Gh} (s : ByteArray) : VR w g (.str s.data.toList) (.string s) := by rw [VR]
theorem gl_of_laid {W : World} {laid : List (String × DataW Unit)} (hp : (laid.all fun x => x.2.handleName?.isNone) = true) (hmm : ("ectype/functor.forms", Rows.laid_ectype_functor_forms) ∈ laid) (hme : ("strconv.ErrRange", Rows.laid_strconv_ErrRange) ∈ laid) (h : laidMetH Tryd.prog laid W) : ∀ n, VR W (g0 W) (gl0 n) (.pointer (some ⟨n, 0, none⟩)) := by
  rw [MakeChecks.laidMetH_plain _ _ _ hp] at h
  obtain ⟨ps, hl, _, _⟩ := h
  obtain ⟨g, t, cs, fuel, p, h1, h2, h3, h4⟩ := laidVars_mem (n := "ectype/functor.forms") (d := Rows.laid_ectype_functor_forms) hl hmm
  obtain rfl := Option.some.inj (gForms.symm.trans h1)
  obtain rfl := Option.some.inj (tForms.symm.trans h2)
  have hcs := forms_cells h4
  obtain ⟨g', t', cs', fuel', p', h1', h2', h3', h4'⟩ := laidVars_mem (n := "strconv.ErrRange") (d := Rows.laid_strconv_ErrRange) hl hme
  obtain rfl := Option.some.inj (gErr.symm.trans h1')
  obtain rfl := Option.some.inj (tErr.symm.trans h2')
  obtain ⟨_, u, v, hcs', hu, _⟩ := iface_of_trod Tryd.underlying89 h4'
  obtain rfl := nameErr u hu
  intro n
  unfold gl0
  split
  · rename_i hn
    subst hn
    rw [VR]
    refine ⟨0, 0, formsV, rfl, formsV_VRs, fun j u hj => ?_⟩
    have hc : W.cell? ⟨0, 0 + j, none⟩ = some u := by
      rw [Nat.zero_add, World.var?_cell gForms h3 j, ← Array.getElem?_toList, hcs]
      exact hj
    exact ⟨(cell_lt hc).1, hc⟩
  split
  · rename_i hn
    subst hn
    rw [VR]
    refine ⟨5, 0, [.iface 133 v], rfl, .mk_cons (by rw [VR]; exact ⟨v, rfl, by rw [VR]; trivial⟩) VRs.mk_nil, fun j u hj => ?_⟩
    have hc : W.cell? ⟨5, 0 + j, none⟩ = some u := by
      rw [Nat.zero_add, World.var?_cell gErr h3' j, ← Array.getElem?_toList, hcs']
      exact hj
    exact ⟨(cell_lt hc).1, hc⟩
  · rw [VR]; trivial
end AE
end Go.Proofs.YtbgppidldpepaaaDoor
