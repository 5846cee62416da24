/- The card of the statement ValueForms. Printed by mkrow.py. -/
import Derived.Test.YthoomlenmgdebaaGreatDoorVR1
import Derived.Test.YthoomlenmgdebaaGreatDoorCards
import Derived.Test.YthoomlenmgdebaaGreatDoorTie
import Derived.SevenTiedAt
set_option linter.unusedVariables false
set_option linter.unusedSimpArgs false
namespace Go.Proofs.YthoomlenmgdebaaGreatDoor
namespace AE
open Go

theorem card_valueForms : Rows.ValueFormsCardSaid :=
  Claim7.holds_tied_plain_at .later [] [.data, .data, .data, .data, .sentinel, .sentinel, .data, .pinned] true (true, "1e4c6b56cb2c6867a9df23e883da558814505b6edc09975099c62a8c7d5b9169") true
    said_valueForms (fun _ h => by cases h) (by kernel_rfl) (fun _ h => by cases h) valueForms_row_tie rfl ⟨rfl, rfl⟩ (by kernel_rfl) rfl
    (fun f fn hf hfn => by
      obtain rfl : f = 5 := Option.some.inj ((show Tryz.prog.funcNamed "ectype/ectypelaw02.ValueForms" = some 5 by kernel_rfl).symm.trans hf) |>.symm
      obtain rfl : fn = Tryz.f5 := (Option.some.inj (Tryz.func5.symm.trans hfn)).symm
      exact ⟨by kernel_rfl, fun j t ht => by
        rw [Tryz.params5] at ht
        have h3 : t = 24 ∨ t = 3 ∨ t = 28 := by
          rcases j with _ | _ | _ | _ | j
          · exact .inl (by simpa using ht.symm)
          · exact .inr (.inl (by simpa using ht.symm))
          · exact .inr (.inr ((by simpa using ht.symm)))
          · exact .inr (.inr ((by simpa using ht.symm)))
          · simp at ht
        rcases h3 with rfl | rfl | rfl
        · exact (show Tryz.prog.wantsStandIn 24 = false by kernel_rfl)
        · exact (show Tryz.prog.wantsStandIn 3 = false by kernel_rfl)
        · exact (show Tryz.prog.wantsStandIn 28 = false by kernel_rfl)
      ⟩)
    (by kernel_rfl)
#print axioms card_valueForms
end AE
end Go.Proofs.YthoomlenmgdebaaGreatDoor
