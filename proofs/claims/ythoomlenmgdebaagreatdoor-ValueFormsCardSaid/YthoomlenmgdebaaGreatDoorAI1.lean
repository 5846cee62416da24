/- The configuration is in order. -/
import Derived.Test.YthoomlenmgdebaaGreatDoorAF0
import Derived.Test.YthoomlenmgdebaaGreatDoorAEN
import Derived.Test.YthoomlenmgdebaaGreatDoorSHL
set_option linter.unusedVariables false
set_option linter.unusedSimpArgs false
namespace Go.Proofs.YthoomlenmgdebaaGreatDoor
namespace AE
open Go

/-- The regions of a code that draw their order. -/
def draws : Code → List (Nat × Array Oper)
  | .region id ops true => [(id, ops)]
  | .seq a b => draws a ++ draws b
  | .cond _ a b => draws a ++ draws b
  | .block _ b => draws b
  | .loop b => draws b
  | _ => []
theorem draws_sub {id : Nat} {ops : Array Oper} : ∀ {c : Code}, Sub c (.region id ops true) → (id, ops) ∈ draws c
  | .seq a b, h => by
    rw [Sub] at h
    rcases h with h | h | h
    · cases h
    · rw [draws]; exact List.mem_append_left _ (draws_sub h)
    · rw [draws]; exact List.mem_append_right _ (draws_sub h)
  | .cond _ a b, h => by
    rw [Sub] at h
    rcases h with h | h | h
    · cases h
    · rw [draws]; exact List.mem_append_left _ (draws_sub h)
    · rw [draws]; exact List.mem_append_right _ (draws_sub h)
  | .block _ b, h => by
    rw [Sub] at h
    rcases h with h | h
    · cases h
    · rw [draws]; exact draws_sub h
  | .loop b, h => by
    rw [Sub] at h
    rcases h with h | h
    · cases h
    · rw [draws]; exact draws_sub h
  | .region i o d, h => by
    simp only [Sub] at h
    cases h
    rw [draws]
    exact List.mem_cons_self
  | .skip, h => by simp only [Sub] at h; cases h
  | .rangeFunc _ _ _ _, h => by simp only [Sub] at h; cases h
  | .exit _, h => by simp only [Sub] at h; cases h
  | .scope _, h => by simp only [Sub] at h; cases h
  | .label _, h => by simp only [Sub] at h; cases h
  | .goto _, h => by simp only [Sub] at h; cases h
  | .ret, h => by simp only [Sub] at h; cases h
  | .refuse _, h => by simp only [Sub] at h; cases h

def dokFn (f : FuncId) (fn : Func) : Bool := match fn.body with
  | some b => (draws b).all fun p => !ann.dok f p.1 || drawOk p.2 (ann.draw f p.1)
  | none => true
def dokAll : Nat → List Func → Bool
  | _, [] => true
  | n, fn :: r => dokFn n fn && dokAll (n + 1) r
theorem dokAll_at : ∀ (l : List Func) (n i : Nat) (fn : Func), dokAll n l = true → l[i]? = some fn → dokFn (n + i) fn = true
  | fn :: r, n, 0, fn', h, hi => by
    rw [dokAll, Bool.and_eq_true] at h
    simp at hi
    subst hi
    exact h.1
  | fn :: r, n, i + 1, fn', h, hi => by
    rw [dokAll, Bool.and_eq_true] at h
    have := dokAll_at r (n + 1) i fn' h.2 (by simpa using hi)
    rwa [show n + 1 + i = n + (i + 1) by omega] at this
  | [], n, i, fn', h, hi => by simp at hi
theorem dok_prog : dokAll 0 Tryz.prog.funcs.toList = true := by kernel_rfl
theorem mixed_prog : Tryz.prog.follows .mixedOrders = true := by kernel_rfl
theorem okb : CfgOk Cb where
  gl := fun n => by
    show closed 0 0 (gl0 n) = true
    unfold gl0
    split
    · decide
    · rfl
  mixed := mixed_prog
  dok := by
    rintro f id ops ⟨fn, b, h1, h2, h3⟩ hd
    have h4 : Tryz.prog.funcs.toList[f]? = some fn := by rw [Array.getElem?_toList]; exact h1
    have h5 := dokAll_at _ 0 f fn dok_prog h4
    rw [Nat.zero_add, dokFn, h2] at h5
    have h6 := List.all_eq_true.1 h5 _ (draws_sub h3)
    have hd' : ann.dok f id = true := hd
    simp only [hd', Bool.not_true, Bool.false_or] at h6
    exact h6
  ext := fun f h he => by cases he
set_option maxRecDepth 1000000 in
theorem awake_runs : saysTrue ((evR Cb 1000000).call awakeF [] ⟨[], []⟩) = true := by kernel_rfl
theorem awake_ok (m : Mem) : CallOk C0 awakeF [] m (.ret (.bool true), m) := by
  obtain ⟨m1, h⟩ := saysTrue_ok awake_runs
  have h1 := call_frame okb.gl ((evR_ok okb 1000000).call _ _ _ _ h) m
  unfold CallOk at h1 ⊢
  rw [C0_P, C0_gl]
  exact h1
theorem sort_ok {args : List A} {m : Mem} {r : Res × Mem} (h : sortG args m = some r) : CallOk C0 sortF args m r := by
  refine sort_call ?_ ?_ ?_ h
  · rw [C0_P]; exact ⟨_, _, Tryz.func49, rfl, by decide⟩
  · intro w
    rw [C0_P]
    exact Any.slices_Sort_int_none Tryz.laysSort none 0 w
  · intro blk off cap zs w h1 h2 h3
    rw [C0_P]
    exact Any.slices_Sort_int Tryz.laysSort blk off cap zs w h1 h2 h3
theorem compact_ok {args : List A} {m : Mem} {r : Res × Mem} (h : compactG args m = some r) : CallOk C0 compactF args m r := by
  refine compact_call ?_ ?_ ?_ h
  · rw [C0_P]; exact ⟨_, _, Tryz.func50, rfl, by decide⟩
  · intro w
    rw [C0_P]
    exact Any.slices_Compact_int_empty Tryz.laysCompact none 0 w
  · intro blk off cap zs w h1 h2 h3
    rw [C0_P]
    exact Any.slices_Compact_int Tryz.laysCompact blk off cap zs w h1 h2 h3
theorem ok0 : CfgOk C0 where
  gl := by rw [C0_gl]; exact okb.gl
  mixed := by rw [C0_P]; exact mixed_prog
  dok := by
    rintro f id ops ⟨fn, b, h1, h2, h3⟩ hd
    rw [C0_P] at h1
    rw [C0_ann] at hd ⊢
    exact okb.dok f id ops ⟨fn, b, h1, h2, h3⟩ hd
  ext := fun f h he args m r hr => by
    by_cases hf : f = awakeF
    · subst hf
      rw [C0_awake] at he
      cases he
      cases args with
      | nil =>
        have : r = (.ret (.bool true), m) := by
          have h2 : some ((.ret (.bool true), m) : Res × Mem) = some r := hr
          exact (Option.some.inj h2).symm
        rw [this]
        exact awake_ok m
      | cons a l => cases hr
    by_cases hf2 : f = sortF
    · subst hf2
      rw [C0_sort] at he
      cases he
      exact sort_ok hr
    by_cases hf3 : f = compactF
    · subst hf3
      rw [C0_compact] at he
      cases he
      exact compact_ok hr
    · rw [C0_ext f (by simp [hf, hf2, hf3])] at he; cases he
#print axioms ok0
end AE
end Go.Proofs.YthoomlenmgdebaaGreatDoor
