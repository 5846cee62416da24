/- The evaluator's configuration; the fixed calls are answered by their own proof. -/
import Derived.Test.YtbgbajadhlhnmaaGreatDoorATV
import Derived.Test.YtbgbajadhlhnmaaGreatDoorTY
set_option linter.unusedVariables false
set_option linter.unusedSimpArgs false
namespace Go.Proofs.YtbgbajadhlhnmaaGreatDoor
namespace AE
open Go

/-- The table of the kinds. -/
def formsT : List A := [(0, 0), (16, 0), (0, 2), (0, 2), (4, 1), (0, 1), (0, 1), (0, 1)].flatMap fun p : Int × Int => [.int .i64 p.1, .int .i64 p.2]
def gl0 (n : Nat) : A := if n = 0 then .rp formsT else .undef
/-- Without answers from outside. -/
noncomputable def Cb : Cfg := { P := Tryz.prog, gl := gl0, ann := ann, ext := fun _ => none }
def awakeG : List A → Mem → Option (Res × Mem)
  | [], m => some (.ret (.bool true), m)
  | _, _ => none
def awakeF : FuncId := 10
noncomputable def C0 : Cfg := { P := Tryz.prog, gl := gl0, ann := ann, ext := fun f => if f = awakeF then some awakeG else none }
@[simp] theorem C0_P : C0.P = Tryz.prog := rfl
@[simp] theorem C0_ann : C0.ann = ann := rfl
@[simp] theorem C0_gl : C0.gl = gl0 := rfl
theorem C0_ext (f : FuncId) (h : (f == awakeF) = false) : C0.ext f = none := by
  show (if f = awakeF then some awakeG else none) = none
  rw [if_neg (by simpa using h)]
theorem C0_awake : C0.ext awakeF = some awakeG := by
  show (if awakeF = awakeF then some awakeG else none) = some awakeG
  rw [if_pos rfl]
attribute [irreducible] C0
@[simp] theorem gl0_0 : gl0 0 = .rp formsT := rfl
theorem ev_awake (m : Mem) : evCall C0 10 [] m = some (.ret (.bool true), m) := by
  have h : C0.ext 10 = some awakeG := C0_awake
  rw [evCall, h]
  rfl
end AE
end Go.Proofs.YtbgbajadhlhnmaaGreatDoor
