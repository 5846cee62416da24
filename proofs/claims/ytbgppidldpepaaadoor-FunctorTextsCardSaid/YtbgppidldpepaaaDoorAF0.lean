/- The evaluator's configuration. -/
import Derived.Test.YtbgppidldpepaaaDoorATF
import Derived.Test.YtbgppidldpepaaaDoorTY
import Derived.Lib.AtoiAll
set_option linter.unusedVariables false
set_option linter.unusedSimpArgs false
namespace Go.Proofs.YtbgppidldpepaaaDoor
namespace AE
open Go

/-- The table of the kinds. -/
def formsT : List A := [(0, 0), (16, 0), (0, 2), (0, 2), (4, 1), (0, 1), (0, 1), (0, 1)].flatMap fun p : Int × Int => [.int .i64 p.1, .int .i64 p.2]
def gl0 (n : Nat) : A := if n = 0 then .rp formsT else if n = 5 then .rp [.ifc 133 .undef] else .undef
/-- strconv.Atoi, by its contract. -/
def atoiG : List A → Mem → Option (Res × Mem)
  | [.str s], m => if s.length ≤ 1000000 then (match Lib.atoiAll s with
    | .ok v => some (.ret (.tup [.int .i64 v, .nili]), m)
    | .range => some (.ret (.tup [.int .i64 (Lib.atoiSat s), .ifc 112 .undef]), m)
    | _ => none) else none
  | _, _ => none
def atoiId : FuncId := 57
noncomputable def Cb : Cfg := { P := Tryd.prog, gl := gl0, ann := ann, ext := fun _ => none }
noncomputable def C0 : Cfg := { P := Tryd.prog, gl := gl0, ann := ann, ext := fun f => if f = atoiId then some atoiG else none }
@[simp] theorem C0_P : C0.P = Tryd.prog := rfl
@[simp] theorem C0_ann : C0.ann = ann := rfl
@[simp] theorem C0_gl : C0.gl = gl0 := rfl
theorem C0_ext (f : FuncId) (h : (f == atoiId) = false) : C0.ext f = none := by
  show (if f = atoiId then some atoiG else none) = none
  rw [if_neg (by simpa using h)]
theorem C0_atoi : C0.ext atoiId = some atoiG := by
  show (if atoiId = atoiId then some atoiG else none) = some atoiG
  rw [if_pos rfl]
attribute [irreducible] C0
@[simp] theorem gl0_0 : gl0 0 = .rp formsT := rfl

end AE
end Go.Proofs.YtbgppidldpepaaaDoor
