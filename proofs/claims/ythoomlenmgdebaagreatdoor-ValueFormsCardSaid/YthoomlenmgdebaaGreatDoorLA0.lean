/- The table of the kinds, as it lies when the call begins. -/
import Derived.Test.YthoomlenmgdebaaGreatDoorOPN
import Derived.Test.YthoomlenmgdebaaGreatDoorAF0
import Derived.Test.YthoomlenmgdebaaGreatDoorRows
set_option linter.unusedVariables false
set_option linter.unusedSimpArgs false
namespace Go.Proofs.YthoomlenmgdebaaGreatDoor
namespace AE
open Go Go.RowKit

theorem laidVars_mem {P : Program} {w : World} {n : String} {d : DataW Unit} : ∀ {laid : List (String × DataW Unit)} {ps : List MemPlace}, DataW.LaidVars P w laid ps → (n, d) ∈ laid →
    ∃ g t cs fuel p, P.globalNamed n = some g ∧ (P.globals[g]?).map (·.type) = some t ∧ w.var? P n = some cs ∧ DataW.trod (fun _ => ()) P w 0 (fun _ => true) false fuel t cs.toList = some (d, p)
  | [], ps, h, hm => by cases hm
  | (m, e) :: r, ps, h, hm => by
    obtain ⟨g, t, cs, fuel, p, q, h1, h2, h3, h4, h5, h6⟩ := h
    rcases List.mem_cons.1 hm with he | hm
    · cases he
      exact ⟨g, t, cs, fuel, p, h1, h2, h3, h4⟩
    · exact laidVars_mem h5 hm
set_option maxRecDepth 1000000 in
theorem gForms : Tryz.prog.globalNamed "ectype/functor.forms" = some 0 := by kernel_rfl
set_option maxRecDepth 1000000 in
theorem tForms : (Tryz.prog.globals[0]?).map (·.type) = some 151 := by kernel_rfl
set_option maxRecDepth 1000000 in
theorem c79 : Tryz.prog.cellsOf 151 = 16 := by kernel_rfl
set_option maxRecDepth 1000000 in
theorem c78 : Tryz.prog.cellsOf 150 = 2 := by kernel_rfl

section
variable {H : Type} {enc : TypeId × Value → H} {w : World} {sp : Nat → Bool} {held : Bool}
set_option maxRecDepth 100000 in
theorem form_of {fuel : Nat} {l : List Value} {x : DataW H × List MemPlace} {a b : Int} (h : DataW.trod enc Tryz.prog w 0 sp held fuel 150 l = some x) (hx : x.1 = .agg [.lit (.int .i64 a), .lit (.int .i64 b)]) : l = [.int .i64 a, .int .i64 b] := by
  obtain ⟨xs, n, hn, rfl, hlen, hxl, hf⟩ := DataW.trod_struct Tryz.underlying150 h
  rw [c78] at hlen
  have hxl2 : xs.length = 2 := hxl
  clear hxl
  obtain ⟨a0, a1, rfl⟩ : ∃ a0 a1, l = [a0, a1] := by
    match l, hlen with
    | [a0, a1], _ => exact ⟨a0, a1, rfl⟩
  obtain ⟨x0, x1, rfl⟩ : ∃ x0 x1, xs = [x0, x1] := by
    match xs, hxl2 with
    | [a0, a1], _ => exact ⟨a0, a1, rfl⟩
  have h0 := hf 0 _ rfl
  have h1 := hf 1 _ rfl
  simp [cInt] at h0 h1
  obtain ⟨k, e0, y0, _⟩ := DataW.trod_int Tryz.underlying3 h0
  obtain ⟨m, e1, y1, _⟩ := DataW.trod_int Tryz.underlying3 h1
  simp at e0 e1
  subst e0 e1 y0 y1
  simp at hx
  obtain ⟨rfl, rfl⟩ := hx
  rfl
end
def formsV : List Value := [(0, 0), (16, 0), (0, 2), (0, 2), (4, 1), (0, 1), (0, 1), (0, 1)].flatMap fun p : Int × Int => [.int .i64 p.1, .int .i64 p.2]
def pairs : List (Int × Int) := [(0, 0), (16, 0), (0, 2), (0, 2), (4, 1), (0, 1), (0, 1), (0, 1)]
theorem formsV_VRs {w : World} {g : Gh} : VRs w g formsT formsV := by
  unfold formsT formsV
  exact .mk_cons VR.mkInt (.mk_cons VR.mkInt (.mk_cons VR.mkInt (.mk_cons VR.mkInt (.mk_cons VR.mkInt (.mk_cons VR.mkInt (.mk_cons VR.mkInt (.mk_cons VR.mkInt (.mk_cons VR.mkInt (.mk_cons VR.mkInt (.mk_cons VR.mkInt (.mk_cons VR.mkInt (.mk_cons VR.mkInt (.mk_cons VR.mkInt (.mk_cons VR.mkInt (.mk_cons VR.mkInt VRs.mk_nil)))))))))))))))
set_option maxRecDepth 100000 in
theorem forms_cells {W : World} {cs : Array Value} {fuel : Nat} {p : List MemPlace} (h : DataW.trod (fun _ => ()) Tryz.prog W 0 (fun _ => true) false fuel 151 cs.toList = some (Rows.laid_ectype_functor_forms, p)) : cs.toList = formsV := by
  obtain ⟨xs, m, hm, hx, hlen, hxl, hel⟩ := DataW.trod_array Tryz.underlying151 h
  rw [c79] at hlen
  simp only [Prod.mk.injEq] at hx
  have hx1 : Rows.laid_ectype_functor_forms = DataW.agg (xs.map (·.1)) := hx.1
  unfold Rows.laid_ectype_functor_forms at hx1
  simp only [DataW.agg.injEq] at hx1
  generalize cs.toList = l at hlen hel
  obtain ⟨x0, x1, x2, x3, x4, x5, x6, x7, rfl⟩ : ∃ x0 x1 x2 x3 x4 x5 x6 x7, xs = [x0, x1, x2, x3, x4, x5, x6, x7] := by
    match xs, hxl with
    | [x0, x1, x2, x3, x4, x5, x6, x7], _ => exact ⟨x0, x1, x2, x3, x4, x5, x6, x7, rfl⟩
  simp only [List.map_cons, List.map_nil, List.cons.injEq, and_true] at hx1
  obtain ⟨y0, y1, y2, y3, y4, y5, y6, y7⟩ := hx1
  have e0 := form_of (hel 0 (by omega)) y0.symm
  have e1 := form_of (hel 1 (by omega)) y1.symm
  have e2 := form_of (hel 2 (by omega)) y2.symm
  have e3 := form_of (hel 3 (by omega)) y3.symm
  have e4 := form_of (hel 4 (by omega)) y4.symm
  have e5 := form_of (hel 5 (by omega)) y5.symm
  have e6 := form_of (hel 6 (by omega)) y6.symm
  have e7 := form_of (hel 7 (by omega)) y7.symm
  rw [c78] at e0 e1 e2 e3 e4 e5 e6 e7
  have hsplit : l = (l.drop (0 * 2)).take 2 ++ ((l.drop (1 * 2)).take 2 ++ ((l.drop (2 * 2)).take 2 ++ ((l.drop (3 * 2)).take 2 ++ ((l.drop (4 * 2)).take 2 ++ ((l.drop (5 * 2)).take 2 ++ ((l.drop (6 * 2)).take 2 ++ (l.drop (7 * 2)).take 2)))))) := by
    obtain ⟨a0, a1, a2, a3, a4, a5, a6, a7, a8, a9, a10, a11, a12, a13, a14, a15, rfl⟩ : ∃ a0 a1 a2 a3 a4 a5 a6 a7 a8 a9 a10 a11 a12 a13 a14 a15, l = [a0, a1, a2, a3, a4, a5, a6, a7, a8, a9, a10, a11, a12, a13, a14, a15] := by
      match l, hlen with
      | [a0, a1, a2, a3, a4, a5, a6, a7, a8, a9, a10, a11, a12, a13, a14, a15], _ => exact ⟨a0, a1, a2, a3, a4, a5, a6, a7, a8, a9, a10, a11, a12, a13, a14, a15, rfl⟩
    rfl
  rw [hsplit, e0, e1, e2, e3, e4, e5, e6, e7]
  rfl
end AE
end Go.Proofs.YthoomlenmgdebaaGreatDoor
