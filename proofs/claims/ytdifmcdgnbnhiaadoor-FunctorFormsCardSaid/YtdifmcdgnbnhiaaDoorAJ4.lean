/- The card of the statement about forms. -/
import Derived.Test.YtdifmcdgnbnhiaaDoorAJ3
import Derived.Test.YtdifmcdgnbnhiaaDoorCards
import Derived.Test.YtdifmcdgnbnhiaaDoorTie
import Derived.SevenTiedAt
set_option linter.unusedVariables false
set_option linter.unusedSimpArgs false
namespace Go.Proofs.YtdifmcdgnbnhiaaDoor
namespace AE
open Go

theorem card_holds : Rows.FunctorFormsCardSaid :=
  Claim7.holds_tied_plain_at .later [] [.data, .data, .data, .data, .sentinel, .sentinel, .data, .pinned] true (true, "7c63f21f9e30051652e9d0a13a429516f323e3df397ec84c8bba97d92f260054") true
    said (fun _ h => by cases h) (by kernel_rfl) (fun _ h => by cases h) functorForms_row_tie rfl ⟨rfl, rfl⟩ (by kernel_rfl) rfl
    (fun f fn hf hfn => by
      obtain rfl : f = 6 := Option.some.inj ((show Tryd.prog.funcNamed "ectype/ectypelaw01.FunctorForms" = some 6 by kernel_rfl).symm.trans hf) |>.symm
      obtain rfl : fn = Tryd.f6 := (Option.some.inj (Tryd.func6.symm.trans hfn)).symm
      exact ⟨by kernel_rfl, fun j t ht => by
        rw [Tryd.params6] at ht
        have h3 : t = 24 := by
          rcases j with _ | _ | j
          · simpa using ht.symm
          · simpa using ht.symm
          · simp at ht
        subst h3
        exact (show Tryd.prog.wantsStandIn 24 = false by kernel_rfl)⟩)
    (by kernel_rfl)
#print axioms card_holds
end AE
end Go.Proofs.YtdifmcdgnbnhiaaDoor
