/- The card of the statement ValueOrder. Printed by mkrow.py. -/
import Derived.Test.YtbgbajadhlhnmaaGreatDoorVJ3
import Derived.Test.YtbgbajadhlhnmaaGreatDoorCards
import Derived.Test.YtbgbajadhlhnmaaGreatDoorTie
import Derived.SevenTiedAt
set_option linter.unusedVariables false
set_option linter.unusedSimpArgs false
namespace Go.Proofs.YtbgbajadhlhnmaaGreatDoor
namespace AE
open Go

theorem card_valueOrder : Rows.ValueOrderCardSaid :=
  Claim7.holds_tied_plain_at .later [] [.data, .data, .data, .data, .sentinel, .sentinel, .data, .pinned] true (true, "58a950b9182cead41c72aa87a26d93dad7ee36cb07c2247bdb6a6bba6220b974") true
    said_valueOrder (fun _ h => by cases h) (by kernel_rfl) (fun _ h => by cases h) valueOrder_row_tie rfl ⟨rfl, rfl⟩ (by kernel_rfl) rfl
    (fun f fn hf hfn => by
      obtain rfl : f = 5 := Option.some.inj ((show Tryz.prog.funcNamed "ectype/ectypelaw02.ValueOrder" = some 5 by kernel_rfl).symm.trans hf) |>.symm
      obtain rfl : fn = Tryz.f5 := (Option.some.inj (Tryz.func5.symm.trans hfn)).symm
      exact ⟨by kernel_rfl, fun j t ht => by
        rw [Tryz.params5] at ht
        have h3 : t = 28 := by
          rcases j with _ | _ | _ | j
          · exact (by simpa using ht.symm)
          · exact (by simpa using ht.symm)
          · exact (by simpa using ht.symm)
          · simp at ht
        rcases h3 with rfl
        · exact (show Tryz.prog.wantsStandIn 28 = false by kernel_rfl)
      ⟩)
    (by kernel_rfl)
#print axioms card_valueOrder
end AE
end Go.Proofs.YtbgbajadhlhnmaaGreatDoor
