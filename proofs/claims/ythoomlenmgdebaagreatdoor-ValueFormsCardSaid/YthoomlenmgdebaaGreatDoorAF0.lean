/- The evaluator's configuration; the fixed calls are answered by their own proof. -/
import Derived.Test.YthoomlenmgdebaaGreatDoorATV
import Derived.Test.YthoomlenmgdebaaGreatDoorAEP
import Derived.Test.YthoomlenmgdebaaGreatDoorTY
set_option linter.unusedVariables false
set_option linter.unusedSimpArgs false
namespace Go.Proofs.YthoomlenmgdebaaGreatDoor
namespace AE
open Go

/-- The table of the kinds. -/
def formsT : List A := [(0, 0), (16, 0), (0, 2), (0, 2), (4, 1), (0, 1), (0, 1), (0, 1)].flatMap fun p : Int × Int => [.int .i64 p.1, .int .i64 p.2]
def gl0 (n : Nat) : A := if n = 0 then .rp formsT else .undef
/-- Without answers from outside. -/
noncomputable def Cb : Cfg := { P := Tryz.prog, gl := gl0, ann := ann, ext := fun _ => none }
def awakeG : List A → Mem → Option (Res × Mem)
  | [], m => some (.ret (.bool true), m)
  | _, _ => none
def awakeF : FuncId := 9
def sortF : FuncId := 49
def compactF : FuncId := 50
noncomputable def C0 : Cfg := { P := Tryz.prog, gl := gl0, ann := ann, ext := fun f => if f = awakeF then some awakeG else if f = sortF then some sortG else if f = compactF then some compactG else none }
@[simp] theorem C0_P : C0.P = Tryz.prog := _root_.id rfl
@[simp] theorem C0_ann : C0.ann = ann := _root_.id rfl
@[simp] theorem C0_gl : C0.gl = gl0 := _root_.id rfl
theorem C0_ext (f : FuncId) (h : (f == awakeF || f == sortF || f == compactF) = false) : C0.ext f = none := by
  simp only [Bool.or_eq_false_iff, beq_eq_false_iff_ne, ne_eq] at h
  show (if f = awakeF then some awakeG else if f = sortF then some sortG else if f = compactF then some compactG else none) = none
  rw [if_neg h.1.1, if_neg h.1.2, if_neg h.2]
theorem C0_awake : C0.ext awakeF = some awakeG := by
  show (if awakeF = awakeF then some awakeG else if awakeF = sortF then some sortG else if awakeF = compactF then some compactG else none) = some awakeG
  rw [if_pos rfl]
theorem C0_sort : C0.ext sortF = some sortG := by
  show (if sortF = awakeF then some awakeG else if sortF = sortF then some sortG else if sortF = compactF then some compactG else none) = some sortG
  rw [if_neg (by decide), if_pos rfl]
theorem C0_compact : C0.ext compactF = some compactG := by
  show (if compactF = awakeF then some awakeG else if compactF = sortF then some sortG else if compactF = compactF then some compactG else none) = some compactG
  rw [if_neg (by decide), if_neg (by decide), if_pos rfl]
attribute [irreducible] C0
@[simp] theorem gl0_0 : gl0 0 = .rp formsT := rfl
theorem ev_awake (m : Mem) : evCall C0 9 [] m = some (.ret (.bool true), m) := by
  have h : C0.ext 9 = some awakeG := C0_awake
  rw [evCall, h]
  rfl
theorem ev_Sort (args : List A) (m : Mem) : evCall C0 49 args m = sortG args m := by
  have h : C0.ext 49 = some sortG := C0_sort
  rw [evCall, h]
theorem ev_Compact (args : List A) (m : Mem) : evCall C0 50 args m = compactG args m := by
  have h : C0.ext 50 = some compactG := C0_compact
  rw [evCall, h]
end AE
end Go.Proofs.YthoomlenmgdebaaGreatDoor
