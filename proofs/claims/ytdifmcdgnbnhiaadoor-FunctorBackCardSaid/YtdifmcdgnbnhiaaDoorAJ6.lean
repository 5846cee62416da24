/- The card of the statement about the strings in brackets. -/
import Derived.Test.YtdifmcdgnbnhiaaDoorAJ5
import Derived.Test.YtdifmcdgnbnhiaaDoorCards
import Derived.Test.YtdifmcdgnbnhiaaDoorTie
import Derived.SevenTiedAt
set_option linter.unusedVariables false
set_option linter.unusedSimpArgs false
namespace Go.Proofs.YtdifmcdgnbnhiaaDoor
namespace AE
open Go

theorem card_holds4 : Rows.FunctorBackCardSaid :=
  Claim7.holds_tied_plain_at .later [] [.data, .data, .data, .data, .sentinel, .sentinel, .data, .pinned] true (true, "7c63f21f9e30051652e9d0a13a429516f323e3df397ec84c8bba97d92f260054") true
    said4 (fun _ h => by cases h) (by kernel_rfl) (fun _ h => by cases h) functorBack_row_tie rfl ⟨rfl, rfl⟩ (by kernel_rfl) rfl
    (fun f fn hf hfn => by
      obtain rfl : f = 4 := Option.some.inj ((show Tryd.prog.funcNamed "ectype/ectypelaw01.FunctorBack" = some 4 by kernel_rfl).symm.trans hf) |>.symm
      obtain rfl : fn = Tryd.f4 := (Option.some.inj (Tryd.func4.symm.trans hfn)).symm
      exact ⟨by kernel_rfl, fun j t ht => by
        rw [Tryd.params4] at ht
        have h3 : t = 24 ∨ t = 5 := by
          rcases j with _ | _ | j
          · exact .inl (by simpa using ht.symm)
          · exact .inr (by simpa using ht.symm)
          · simp at ht
        rcases h3 with rfl | rfl
        · exact (show Tryd.prog.wantsStandIn 24 = false by kernel_rfl)
        · exact (show Tryd.prog.wantsStandIn 5 = false by kernel_rfl)⟩)
    (by kernel_rfl)
#print axioms card_holds4
end AE
end Go.Proofs.YtdifmcdgnbnhiaaDoor
