/- The row of the statement ValueMaps. Printed by mkrow.py. -/
import Derived.Test.YthoomlenmgdebaaGreatDoorGE
import Derived.Test.YthoomlenmgdebaaGreatDoorGG
import Derived.Lay
import Derived.Stop.Joined
import Derived.Carry
import Derived.Test.YthoomlenmgdebaaGreatDoorCards
import Derived.Test.YthoomlenmgdebaaGreatDoorTie
import Derived.SevenTiedAt
set_option linter.unusedVariables false
set_option linter.unusedSimpArgs false
namespace Go.Proofs.YthoomlenmgdebaaGreatDoor
namespace AE
open Go Go.ChangeShapes Go.WideShapes Go.ChangeAt Go.RowKit

theorem own : ownKnob Tryz.prog.godebug = none := by kernel_rfl
theorem laidOut : laidOutB Tryz.prog = true := by kernel_rfl
theorem door_met_valueMaps (os : Os) (args : Array Value) : laidMetH Tryz.prog Rows.valueMapsRow.laid ((World.laidAll Tryz.prog os Rows.valueMapsRow.laid).forCall (fun _ _ => 0) ⟨#[], args, []⟩).memory := by
  rw [MakeChecks.laidMetH_plain _ _ _ (by kernel_rfl)]
  exact laidMet_laidAll _ (by kernel_rfl) (by kernel_rfl)
set_option maxRecDepth 100000 in
theorem lifted_valueMaps (os : Os) (started : os.Started) (H : Type) (enc : TypeId × Value → H) :
    ReturnsInHanded {} Tryz.checked os 3 .any (fun w args => (Rows.valueMapsSpec.pre enc Tryz.prog Tryz.f3 [] false w args ∧ laidMetH Tryz.prog Rows.valueMapsRow.laid w) ∧ sizedMet enc Tryz.prog Tryz.f3 (OpenSpec.ofChange Rows.valueMapsSpec) false w args)
      (Rows.valueMapsSpec.post enc Tryz.prog Tryz.f3 false true false false) := by
  refine returnsInHanded_of_change_and (C := Tryz.checked) (X := fun w _ => laidMetH Tryz.prog Rows.valueMapsRow.laid w) (fun _ _ _ hh h => h.of_heap hh) own started (by kernel_rfl) Tryz.func3
    (ChangeSpec.witness_shaped (enc := enc) (C := Tryz.checked) (os := os) (X := fun w _ => laidMetH Tryz.prog Rows.valueMapsRow.laid w) false (World.laidAll Tryz.prog os Rows.valueMapsRow.laid) #[.agg #[.int .i64 0, .int .i64 0, .slice none 0 0], .int .i64 0, .agg #[.int .i64 0, .slice none 0 0, .slice none 0 0], .slice none 0 0] 8 rfl (World.shaped_of_ZipB (by kernel_rfl) (by kernel_rfl)) (by kernel_rfl) (by kernel_rfl) (by kernel_rfl) (door_met_valueMaps os _)) ?_
  intro W base args ds gs before hval0 hW _ _ hL _
  have hW' := hW
  obtain ⟨p, q, hA0, hV, rfl, hfz, hnd⟩ := hW
  have hA : DataW.TrodAll enc Tryz.prog W 0 (fun _ => true) true Tryz.f3.params.toList args.toList ds p := hA0
  rw [Tryz.params3] at hA
  obtain ⟨v0, v1, v2, v3, d0, d1, d2, d3, p0, p1, p2, p3, rfl, rfl, rfl, h0, h1, h2, h3⟩ := trodAll_four hA
  obtain ⟨rfl, rfl⟩ := trodVars_none hV
  have k0 := h0
  have k1 := h1
  have k2 := h2
  have k3 := h3
  have lt0 : ∀ x ∈ p0, x.block < W.heap.size := by obtain ⟨m, hm⟩ := k0; exact DataW.trod_lt m _ _ _ hm
  have lt1 : ∀ x ∈ p1, x.block < W.heap.size := by obtain ⟨m, hm⟩ := k1; exact DataW.trod_lt m _ _ _ hm
  have lt2 : ∀ x ∈ p2, x.block < W.heap.size := by obtain ⟨m, hm⟩ := k2; exact DataW.trod_lt m _ _ _ hm
  have lt3 : ∀ x ∈ p3, x.block < W.heap.size := by obtain ⟨m, hm⟩ := k3; exact DataW.trod_lt m _ _ _ hm
  obtain ⟨n0, h0⟩ := h0
  obtain ⟨x0, hx0⟩ := open_fun n0 n0 (Nat.le_refl _) _ _ h0
  obtain ⟨x1, rfl, _, _, hw1⟩ := open_int Tryz.underlying3 (hval0 1 3 v1 rfl rfl) h1
  obtain ⟨n2, h2⟩ := h2
  obtain ⟨x2, hx2⟩ := open_val n2 n2 (Nat.le_refl _) _ _ h2
  obtain ⟨a3, len3, cap3, rfl⟩ := Go.WideShapes.okWide_slice Tryz.underlying26 (hval0 3 26 v3 rfl rfl)
  obtain ⟨n3, h3⟩ := h3
  obtain ⟨x3, w3, e3, hx3⟩ := open_ks h3
  obtain rfl : Value.slice a3 len3 cap3 = w3 := by simpa [Value.cells] using e3
  have hs := sr0 (P := Tryz.prog) (gl_of_laid (laid := Rows.valueMapsRow.laid) (by kernel_rfl) (by simp [Rows.valueMapsRow]) (by simp [Rows.valueMapsRow]) hL) (tb_of_laid (laid := Rows.valueMapsRow.laid) (by kernel_rfl) (by simp [Rows.valueMapsRow]) hL)
  have hcall := (sound ok0 3 [.agg x0.cells, .int .i64 x1, .agg x2.cells, .isl false x3.length (ints x3)] ⟨[], []⟩ _ (ev_ValueMaps x0 x1 x2 x3 ⟨[], []⟩)).2 W (g0 W) W [v0, .int .i64 x1, v2, .slice a3 len3 cap3] (by rw [C0_P, C0_gl]; exact hs) ?_
  · rw [C0_P] at hcall
    refine Calls.mono hcall fun e W' hR => ?_
    obtain ⟨g', hs', _, hres⟩ := hR
    cases e with
    | panicked ch => exact hres.elim
    | outgrown => exact hres.elim
    | returned v =>
      have hv : v = .bool true := hres
      subst hv
      have bel := hs'.below
      exact ⟨_, rfl, _, _, _, [], _, [], hW', trodAll_mk1 (shut_bool Tryz.underlying4 _), (trodAll_cons_mk (Below.trod laidOut (by kernel_rfl) (of_decide_eq_true (by kernel_rfl)) k0 bel lt0) (trodAll_cons_mk (Below.trod laidOut (by kernel_rfl) (of_decide_eq_true (by kernel_rfl)) k1 bel lt1) (trodAll_cons_mk (Below.trod laidOut (by kernel_rfl) (of_decide_eq_true (by kernel_rfl)) k2 bel lt2) (trodAll_cons_mk (Below.trod laidOut (by kernel_rfl) (of_decide_eq_true (by kernel_rfl)) k3 bel lt3) trodAll_mk0)))), rfl, bel.frame _, fun h => by cases h⟩
  · exact .mk_cons (agg_of hx0 (by simp)) (.mk_cons VR.mkInt (.mk_cons (agg_of hx2 (by simp)) (.mk_cons hx3 VRs.mk_nil)))

theorem said_valueMaps : Rows.ValueMapsSaid :=
  OpenClaim.holds_of_wide 3 Tryz.f3 rfl rfl rfl rfl rfl rfl rfl ⟨rfl, rfl, rfl, rfl, rfl⟩ rfl rfl rfl rfl rfl (by kernel_rfl) Tryz.func3 (by kernel_rfl)
    (of_decide_eq_true (by kernel_rfl)) (by unfold Func.isWrapper; first | (rw [if_pos (by decide +kernel)]; kernel_rfl) | (rw [if_neg (by decide +kernel)]; exact ⟨rfl, rfl⟩))
    (fun os started H enc _ => lifted_valueMaps os started H enc)
#print axioms said_valueMaps
end AE
end Go.Proofs.YthoomlenmgdebaaGreatDoor

/- The card of the statement ValueMaps. Printed by mkrow.py. -/
set_option linter.unusedVariables false
set_option linter.unusedSimpArgs false
namespace Go.Proofs.YthoomlenmgdebaaGreatDoor
namespace AE
open Go

theorem card_valueMaps : Rows.ValueMapsCardSaid :=
  Claim7.holds_tied_plain_at .later [] [.data, .data, .data, .data, .sentinel, .sentinel, .data, .pinned] true (true, "1e4c6b56cb2c6867a9df23e883da558814505b6edc09975099c62a8c7d5b9169") true
    said_valueMaps (fun _ h => by cases h) (by kernel_rfl) (fun _ h => by cases h) valueMaps_row_tie rfl ⟨rfl, rfl⟩ (by kernel_rfl) rfl
    (fun f fn hf hfn => by
      obtain rfl : f = 3 := Option.some.inj ((show Tryz.prog.funcNamed "ectype/ectypelaw02.ValueMaps" = some 3 by kernel_rfl).symm.trans hf) |>.symm
      obtain rfl : fn = Tryz.f3 := (Option.some.inj (Tryz.func3.symm.trans hfn)).symm
      exact ⟨by kernel_rfl, fun j t ht => by
        rw [Tryz.params3] at ht
        have h3 : t = 24 ∨ t = 3 ∨ t = 28 ∨ t = 26 := by
          rcases j with _ | _ | _ | _ | j
          · exact .inl (by simpa using ht.symm)
          · exact .inr (.inl (by simpa using ht.symm))
          · exact .inr (.inr (.inl (by simpa using ht.symm)))
          · exact .inr (.inr (.inr ((by simpa using ht.symm))))
          · simp at ht
        rcases h3 with rfl | rfl | rfl | rfl
        · exact (show Tryz.prog.wantsStandIn 24 = false by kernel_rfl)
        · exact (show Tryz.prog.wantsStandIn 3 = false by kernel_rfl)
        · exact (show Tryz.prog.wantsStandIn 28 = false by kernel_rfl)
        · exact (show Tryz.prog.wantsStandIn 26 = false by kernel_rfl)
      ⟩)
    (by kernel_rfl)
#print axioms card_valueMaps
end AE
end Go.Proofs.YthoomlenmgdebaaGreatDoor
