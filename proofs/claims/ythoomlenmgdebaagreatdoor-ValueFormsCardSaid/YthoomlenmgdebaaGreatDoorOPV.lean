/- Trees of values that came in. -/
import Derived.Test.YthoomlenmgdebaaGreatDoorOPN
import Derived.Test.YthoomlenmgdebaaGreatDoorATV
set_option linter.unusedVariables false
set_option linter.unusedSimpArgs false
namespace Go.Proofs.YthoomlenmgdebaaGreatDoor
namespace AE
open Go Go.RowKit

set_option maxRecDepth 1000000 in
theorem cVal : Tryz.prog.cellsOf 28 = 3 := by kernel_rfl
set_option maxRecDepth 1000000 in
theorem cVals : Tryz.prog.cellsOf 25 = 1 := by kernel_rfl
set_option maxRecDepth 1000000 in
theorem cInts : Tryz.prog.cellsOf 26 = 1 := by kernel_rfl
theorem Val.flat : ∀ l : List Val, l.flatMap Val.cells = Val.cellsL l
  | [] => by simp
  | f :: r => by rw [List.flatMap_cons, Val.flat r, Val.cellsL]
set_option maxRecDepth 100000 in
theorem open_val {H : Type} {enc : TypeId × Value → H} {W : World} : ∀ (N fuel : Nat), fuel ≤ N → ∀ (cs : List Value) (x : DataW H × List MemPlace), DataW.trod enc Tryz.prog W 0 (fun _ => true) true fuel 28 cs = some x → ∃ f : Val, VRs W (g0 W) f.cells cs := by
  intro N
  induction N with
  | zero =>
    intro fuel hfu cs x h
    obtain rfl : fuel = 0 := by omega
    simp [DataW.trod] at h
  | succ N ih =>
    intro fuel hfu cs x h
    obtain ⟨xs, n, hn, rfl, hlen, hxl, hf⟩ := DataW.trod_struct Tryz.underlying28 h
    rw [cVal] at hlen
    have hxl3 : xs.length = 3 := hxl
    clear hxl
    obtain ⟨a0, a1, a2, rfl⟩ : ∃ a0 a1 a2, cs = [a0, a1, a2] := by
      match cs, hlen with
      | [a0, a1, a2], _ => exact ⟨a0, a1, a2, rfl⟩
    obtain ⟨x0, x1, x2, rfl⟩ : ∃ x0 x1 x2, xs = [x0, x1, x2] := by
      match xs, hxl3 with
      | [a0, a1, a2], _ => exact ⟨a0, a1, a2, rfl⟩
    have h0 := hf 0 _ rfl
    have h1 := hf 1 _ rfl
    have h2 := hf 2 _ rfl
    simp [cInt, cVals, cInts] at h0 h1 h2
    obtain ⟨k, e0, _, _⟩ := DataW.trod_int Tryz.underlying3 h0
    simp at e0
    subst e0
    obtain ⟨l, v, e1, hv⟩ := open_slice (by decide) Tryz.underlying25 cVal Val.cells Val.cells_length (fun n' hn' ds y hy => ih n' (by omega) ds y hy) h1
    obtain ⟨ks, v2, e2, hv2⟩ := open_ks h2
    simp at e1 e2
    subst e1 e2
    rw [Val.flat] at hv
    refine ⟨.mk k l ks, ?_⟩
    rw [Val.cells_eq]
    exact .mk_cons VR.mkInt (.mk_cons hv (.mk_cons hv2 VRs.mk_nil))
end AE
end Go.Proofs.YthoomlenmgdebaaGreatDoor
