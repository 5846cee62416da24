/- The reference's functions about functors, on. -/
import Derived.Test.YthoomlenmgdebaaGreatDoorAF1
set_option linter.unusedVariables false
set_option linter.unusedSimpArgs false
namespace Go.Proofs.YthoomlenmgdebaaGreatDoor
namespace AE
open Go

theorem Fun.cellsL_snoc {l : List Fun} {i : Nat} (h : i < l.length) : Fun.cellsL (l.take (i + 1)) = Fun.cellsL (l.take i) ++ (l[i]).cells := by
  rw [List.take_succ_eq_append_getElem h, Fun.cellsL_append, Fun.cellsL, Fun.cellsL_nil, List.append_nil]
def hasK (p : Int → Bool) : Fun → Bool
  | .mk k _ l => p k || l.attach.any fun ⟨g, _⟩ => hasK p g
theorem hasK_eq (p : Int → Bool) (f : Fun) : hasK p f = (p f.kind || f.args.any (hasK p)) := by
  cases f with
  | mk k n l =>
    rw [hasK]
    simp
theorem any_drop {α : Type} {p : α → Bool} {l : List α} {i : Nat} (h : i < l.length) : (l.drop i).any p = (p l[i] || (l.drop (i + 1)).any p) := by rw [List.drop_eq_getElem_cons h, List.any_cons]
def isF (f : Fun) : Bool := decide (0 < leftF f 21) && decide (f.depth ≤ 8) && shapedF f
end AE
end Go.Proofs.YthoomlenmgdebaaGreatDoor

