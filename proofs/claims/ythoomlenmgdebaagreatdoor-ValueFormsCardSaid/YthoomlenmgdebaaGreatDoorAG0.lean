/- Plain laws about functors: when a functor is valid. -/
import Derived.Test.YthoomlenmgdebaaGreatDoorAF4
set_option linter.unusedVariables false
set_option linter.unusedSimpArgs false
namespace Go.Proofs.YthoomlenmgdebaaGreatDoor
namespace AE
open Go

theorem arityF_kind {k : Int} (h : 0 ≤ arityF k) : 0 ≤ k ∧ k ≤ 7 := by
  unfold arityF at h
  repeat' split at h
  all_goals omega
mutual
theorem leftF_nodes : ∀ (f : Fun) (most : Int), 1 ≤ most → leftF f most = max (most - f.nodes) 0
  | .mk k n l, most, h => by
    rw [leftF, leftL_nodes l (most - 1) (by omega), Fun.nodes_eq]
    simp only [Fun.args_mk]
    omega
theorem leftL_nodes : ∀ (l : List Fun) (q : Int), 0 ≤ q → leftL l q = max (q - Fun.nodesL l) 0
  | [], q, h => by rw [leftL, Fun.nodesL]; omega
  | f :: r, q, h => by
    rw [leftL, Fun.nodesL]
    split
    · rw [leftF_nodes f q (by omega), leftL_nodes r _ (by omega)]
      omega
    · have := f.nodes_pos
      omega
end
mutual
theorem validF_spec : ∀ (f : Fun) (left deep : Int), 0 ≤ left → ((validF f left deep).1 = true ↔ ((f.nodes : Int) ≤ left ∧ deep - 1 + f.depth ≤ 8 ∧ shapedF f = true)) ∧ ((validF f left deep).1 = true → (validF f left deep).2 = left - f.nodes)
  | .mk k n l, left, deep, h => by
    rw [validF, Fun.nodes_eq, Fun.depth_eq, shapedF]
    simp only [Fun.args_mk]
    split
    · rename_i hc
      simp only [Bool.false_eq_true, false_iff, false_implies, and_true, Bool.and_eq_true, decide_eq_true_eq]
      rintro ⟨h1, h2, ⟨⟨h3, h4⟩, h5⟩, h6⟩
      have := arityF_kind (k := k) (by rw [← h3]; omega)
      omega
    · rename_i hc
      simp only [not_or, Int.not_lt, Decidable.not_not] at hc
      have := validL_spec l (left - 1) deep (by omega) (by omega)
      simp only [Bool.and_eq_true, decide_eq_true_eq]
      refine ⟨this.1.trans ⟨fun ⟨a, b, c⟩ => ⟨by omega, by omega, ⟨⟨hc.2.2.2.2.1, by omega⟩, by omega⟩, c⟩, fun ⟨a, b, c⟩ => ⟨by omega, by omega, c.2⟩⟩, fun hv => ?_⟩
      rw [this.2 hv]
      omega
theorem validL_spec : ∀ (l : List Fun) (left deep : Int), 0 ≤ left → deep ≤ 8 → ((validL l left deep).1 = true ↔ ((Fun.nodesL l : Int) ≤ left ∧ deep + Fun.depthL l ≤ 8 ∧ shapedL l = true)) ∧ ((validL l left deep).1 = true → (validL l left deep).2 = left - Fun.nodesL l)
  | [], left, deep, h, hd => by
    rw [validL, Fun.nodesL, Fun.depthL, shapedL]
    simp
    omega
  | f :: r, left, deep, h, hd => by
    rw [validL, Fun.nodesL, Fun.depthL, shapedL]
    have h1 := validF_spec f left (deep + 1) h
    simp only [Bool.and_eq_true]
    split
    · rename_i hv
      have h2 := h1.2 hv
      have h3 := h1.1.1 hv
      have h4 := validL_spec r (left - f.nodes) deep (by omega) hd
      rw [h2]
      refine ⟨h4.1.trans ⟨fun ⟨a, b, c⟩ => ⟨by omega, by omega, h3.2.2, c⟩, fun ⟨a, b, c⟩ => ⟨by omega, by omega, c.2⟩⟩, fun hv' => ?_⟩
      rw [h4.2 hv']
      omega
    · rename_i hv
      simp only [Bool.false_eq_true, false_iff, false_implies, and_true]
      rintro ⟨a, b, c, d⟩
      exact hv (h1.1.2 ⟨by omega, by omega, c⟩)
end
theorem okF_iff (f : Fun) : okF f = true ↔ f.nodes ≤ 20 ∧ f.depth ≤ 8 ∧ shapedF f = true := by
  unfold okF
  rw [(validF_spec f 20 1 (by omega)).1]
  constructor
  · rintro ⟨a, b, c⟩; exact ⟨by omega, by omega, c⟩
  · rintro ⟨a, b, c⟩; exact ⟨by omega, by omega, c⟩
theorem isF_okF (f : Fun) : isF f = okF f := by
  rw [Bool.eq_iff_iff, okF_iff, isF]
  simp only [Bool.and_eq_true, decide_eq_true_eq]
  rw [leftF_nodes f 21 (by omega)]
  constructor
  · rintro ⟨⟨a, b⟩, c⟩; exact ⟨by omega, b, c⟩
  · rintro ⟨a, b, c⟩; exact ⟨⟨by omega, b⟩, c⟩
end AE
end Go.Proofs.YthoomlenmgdebaaGreatDoor
