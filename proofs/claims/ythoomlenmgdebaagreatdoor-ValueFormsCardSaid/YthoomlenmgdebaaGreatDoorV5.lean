/- The states of a value; plain laws. -/
import Derived.Test.YthoomlenmgdebaaGreatDoorV4
import Derived.Test.YthoomlenmgdebaaGreatDoorAEP
import Derived.Lib.SlicesCompact
set_option linter.unusedVariables false
set_option linter.unusedSimpArgs false
namespace Go.Proofs.YthoomlenmgdebaaGreatDoor
namespace AE
open Go

def insI (n : Int) : List Int → List Int
  | [] => [n]
  | x :: r => if x = n then x :: r else if n < x then n :: x :: r else x :: insI n r
mutual
def leavesV : Val → Fun → List Int
  | .mk k l w, f => if f.kind = 0 then [k] else leavesL l (argF f k) 0
def leavesL : List Val → (Nat → Fun) → Nat → List Int
  | [], _, _ => []
  | v :: r, g, i => leavesV v (g i) ++ leavesL r g (i + 1)
end
mutual
def statesV : Val → Fun → List Int → List Int
  | .mk k l w, f, o => if f.kind = 0 then insI k o else statesL l (argF f k) 0 o
def statesL : List Val → (Nat → Fun) → Nat → List Int → List Int
  | [], _, _, o => o
  | v :: r, g, i, o => statesL r g (i + 1) (statesV v (g i) o)
end
def insF (o l : List Int) : List Int := l.foldl (fun o x => insI x o) o
mutual
theorem statesV_eq : ∀ (v : Val) (f : Fun) (o : List Int), statesV v f o = insF o (leavesV v f)
  | .mk k l w, f, o => by
    rw [statesV, leavesV]
    split
    · rfl
    · exact statesL_eq l _ 0 o
theorem statesL_eq : ∀ (l : List Val) (g : Nat → Fun) (i : Nat) (o : List Int), statesL l g i o = insF o (leavesL l g i)
  | [], g, i, o => by rw [statesL, leavesL]; rfl
  | v :: r, g, i, o => by
    rw [statesL, leavesL, statesL_eq r g (i + 1), statesV_eq v (g i)]
    unfold insF
    rw [List.foldl_append]
end
theorem insI_mem (n x : Int) : ∀ l : List Int, x ∈ insI n l ↔ x = n ∨ x ∈ l
  | [] => by rw [insI]; simp
  | y :: r => by
    rw [insI]
    split
    · rename_i h
      subst h
      simp only [List.mem_cons]
      constructor
      · exact fun h => .inr h
      · rintro (h | h)
        · exact .inl h
        · exact h
    · split
      · simp
      · simp only [List.mem_cons, insI_mem n x r]
        constructor
        · rintro (h | h | h)
          · exact .inr (.inl h)
          · exact .inl h
          · exact .inr (.inr h)
        · rintro (h | h | h)
          · exact .inr (.inl h)
          · exact .inl h
          · exact .inr (.inr h)
theorem insI_sorted (n : Int) : ∀ {l : List Int}, l.Pairwise (· < ·) → (insI n l).Pairwise (· < ·)
  | [], _ => by rw [insI]; exact List.pairwise_singleton _ _
  | y :: r, h => by
    rw [List.pairwise_cons] at h
    rw [insI]
    split
    · exact List.pairwise_cons.2 h
    · split
      · rename_i hl
        refine List.pairwise_cons.2 ⟨fun b hb => ?_, List.pairwise_cons.2 h⟩
        rcases List.mem_cons.1 hb with rfl | hb
        · exact hl
        · have := h.1 b hb; omega
      · rename_i h0 hl
        refine List.pairwise_cons.2 ⟨fun b hb => ?_, insI_sorted n h.2⟩
        rcases (insI_mem n b r).1 hb with rfl | hb
        · omega
        · exact h.1 b hb
theorem insF_mem (x : Int) : ∀ l o : List Int, x ∈ insF o l ↔ x ∈ l ∨ x ∈ o
  | [], o => by simp [insF]
  | y :: r, o => by
    rw [show insF o (y :: r) = insF (insI y o) r from rfl, insF_mem x r, insI_mem, List.mem_cons]
    constructor
    · rintro (h | h | h)
      · exact .inl (.inr h)
      · exact .inl (.inl h)
      · exact .inr h
    · rintro ((h | h) | h)
      · exact .inr (.inl h)
      · exact .inl h
      · exact .inr (.inr h)
theorem insF_sorted : ∀ (l : List Int) {o : List Int}, o.Pairwise (· < ·) → (insF o l).Pairwise (· < ·)
  | [], _, h => h
  | y :: r, _, h => insF_sorted r (insI_sorted y h)
theorem strict_ext : ∀ {l r : List Int}, l.Pairwise (· < ·) → r.Pairwise (· < ·) → (∀ x, x ∈ l ↔ x ∈ r) → l = r
  | [], [], _, _, _ => rfl
  | [], y :: r, _, _, h => by have := (h y).2 List.mem_cons_self; cases this
  | x :: l, [], _, _, h => by have := (h x).1 List.mem_cons_self; cases this
  | x :: l, y :: r, hl, hr, h => by
    rw [List.pairwise_cons] at hl hr
    have e : x = y := by
      rcases List.mem_cons.1 ((h x).1 List.mem_cons_self) with h1 | h1
      · exact h1
      · rcases List.mem_cons.1 ((h y).2 List.mem_cons_self) with h2 | h2
        · exact h2.symm
        · have := hl.1 y h2
          have := hr.1 x h1
          omega
    subst e
    rw [strict_ext hl.2 hr.2 fun z => ?_]
    constructor
    · intro hz
      rcases List.mem_cons.1 ((h z).1 (List.mem_cons_of_mem _ hz)) with h1 | h1
      · subst h1; exact absurd (hl.1 z hz) (by omega)
      · exact h1
    · intro hz
      rcases List.mem_cons.1 ((h z).2 (List.mem_cons_of_mem _ hz)) with h1 | h1
      · subst h1; exact absurd (hr.1 z hz) (by omega)
      · exact h1
theorem compact_upTo {d : Array Int} (h : ∀ i j, i ≤ j → j < d.size → d[i]! ≤ d[j]!) : ∀ m, m ≤ d.size → (Lib.compactUpTo d m).Pairwise (· < ·) ∧ ∀ x, x ∈ Lib.compactUpTo d m ↔ ∃ j, j < m ∧ d[j]! = x
  | 0, _ => ⟨List.Pairwise.nil, fun x => ⟨fun hx => (by cases hx), fun ⟨j, hj, _⟩ => (by omega)⟩⟩
  | m + 1, hm => by
    obtain ⟨h1, h2⟩ := compact_upTo h m (by omega)
    rw [Lib.compactUpTo_succ]
    by_cases hk : Lib.keeps d m = true
    · rw [if_pos hk]
      refine ⟨List.pairwise_append.2 ⟨h1, List.pairwise_singleton _ _, fun a ha b hb => ?_⟩, fun x => ?_⟩
      · obtain ⟨j, hj, rfl⟩ := (h2 a).1 ha
        rw [List.mem_singleton] at hb
        subst hb
        unfold Lib.keeps at hk
        simp only [decide_eq_true_eq] at hk
        have ha := h j (m - 1) (by omega) (by omega)
        have hb := h (m - 1) m (by omega) (by omega)
        rcases hk with hk | hk
        · omega
        · omega
      · rw [List.mem_append, h2 x, List.mem_singleton]
        constructor
        · rintro (⟨j, hj, e⟩ | e)
          · exact ⟨j, by omega, e⟩
          · exact ⟨m, by omega, e.symm⟩
        · rintro ⟨j, hj, e⟩
          by_cases hjm : j = m
          · subst hjm; exact .inr e.symm
          · exact .inl ⟨j, by omega, e⟩
    · rw [if_neg hk, List.append_nil]
      refine ⟨h1, fun x => ?_⟩
      rw [h2 x]
      unfold Lib.keeps at hk
      simp only [decide_eq_true_eq, not_or, Decidable.not_not] at hk
      constructor
      · rintro ⟨j, hj, e⟩; exact ⟨j, by omega, e⟩
      · rintro ⟨j, hj, e⟩
        by_cases hjm : j = m
        · subst hjm; exact ⟨j - 1, by omega, by rw [← hk.2]; exact e⟩
        · exact ⟨j, by omega, e⟩
theorem compact_sorted {l : List Int} (h : l.Pairwise (· ≤ ·)) : (Lib.compact l).Pairwise (· < ·) ∧ ∀ x, x ∈ Lib.compact l ↔ x ∈ l := by
  have h0 : ∀ i j, i ≤ j → j < l.toArray.size → l.toArray[i]! ≤ l.toArray[j]! := by
    intro i j hij hj
    simp only [List.size_toArray] at hj
    rw [getElem!_pos l.toArray i (by simpa using by omega), getElem!_pos l.toArray j (by simpa using hj)]
    simp only [List.getElem_toArray]
    rcases Nat.lt_or_ge i j with hlt | hge
    · exact List.pairwise_iff_getElem.1 h i j (by omega) hj hlt
    · have : i = j := by omega
      subst this
      omega
  obtain ⟨h1, h2⟩ := compact_upTo h0 l.length (by simp)
  refine ⟨h1, fun x => (h2 x).trans ?_⟩
  constructor
  · rintro ⟨j, hj, rfl⟩
    rw [getElem!_pos l.toArray j (by simpa using hj)]
    simp
  · intro hx
    obtain ⟨j, hj, rfl⟩ := List.getElem_of_mem hx
    exact ⟨j, hj, by rw [getElem!_pos l.toArray j (by simpa using hj)]; simp⟩
theorem sortI_sorted (l : List Int) : (sortI l).Pairwise (· ≤ ·) := by
  have := List.pairwise_mergeSort (le := fun x y : Int => decide (x ≤ y)) (by intro a b c; simp; omega) (by intro a b; simp; omega) l
  exact this.imp (by intro a b h; simpa using h)
theorem states_eq (l : List Int) : insF [] l = Lib.compact (sortI l) := by
  obtain ⟨h1, h2⟩ := compact_sorted (sortI_sorted l)
  refine strict_ext (insF_sorted l List.Pairwise.nil) h1 fun x => ?_
  rw [insF_mem, h2]
  unfold sortI
  rw [List.mem_mergeSort]
  simp
end AE
end Go.Proofs.YthoomlenmgdebaaGreatDoor
