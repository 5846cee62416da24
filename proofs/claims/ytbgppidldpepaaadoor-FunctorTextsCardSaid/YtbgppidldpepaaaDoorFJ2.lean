/- The card of the statement FunctorTexts. Printed by mkrow.py. -/
import Derived.Test.YtbgppidldpepaaaDoorFJ1
import Derived.Test.YtbgppidldpepaaaDoorCards
import Derived.Test.YtbgppidldpepaaaDoorTie
import Derived.SevenTiedAt
set_option linter.unusedVariables false
set_option linter.unusedSimpArgs false
namespace Go.Proofs.YtbgppidldpepaaaDoor
namespace AE
open Go

theorem card_functorTexts : Rows.FunctorTextsCardSaid :=
  Claim7.holds_tied_plain_at .later [] [.data, .data, .data, .data, .sentinel, .sentinel, .data, .pinned] true (true, "c1325ced6cca61fd7a4882deaaf9009ef860d6a66704a709df091bdfb77f0152") true
    said_functorTexts (fun _ h => by cases h) (by kernel_rfl) (fun _ h => by cases h) functorTexts_row_tie rfl ⟨rfl, rfl⟩ (by kernel_rfl) rfl
    (fun f fn hf hfn => by
      obtain rfl : f = 3 := Option.some.inj ((show Tryd.prog.funcNamed "ectype/ectypelaw01.FunctorTexts" = some 3 by kernel_rfl).symm.trans hf) |>.symm
      obtain rfl : fn = Tryd.f3 := (Option.some.inj (Tryd.func3.symm.trans hfn)).symm
      exact ⟨by kernel_rfl, fun j t ht => by
        rw [Tryd.params3] at ht
        have h3 : t = 24 ∨ t = 9 ∨ t = 4 := by
          rcases j with _ | _ | _ | j
          · exact .inl (by simpa using ht.symm)
          · exact .inr (.inl (by simpa using ht.symm))
          · exact .inr (.inr ((by simpa using ht.symm)))
          · simp at ht
        rcases h3 with rfl | rfl | rfl
        · exact (show Tryd.prog.wantsStandIn 24 = false by kernel_rfl)
        · exact (show Tryd.prog.wantsStandIn 9 = false by kernel_rfl)
        · exact (show Tryd.prog.wantsStandIn 4 = false by kernel_rfl)
      ⟩)
    (by kernel_rfl)
#print axioms card_functorTexts
end AE
end Go.Proofs.YtbgppidldpepaaaDoor
