/- Plain laws about functors: when a functor is valid. -/
import Derived.Test.YtopfodhjlhpdmaaGreatDoorGF
import Derived.Test.YtopfodhjlhpdmaaGreatDoorGE
import Derived.Lib.SlicesCompact
set_option linter.unusedVariables false
set_option linter.unusedSimpArgs false
namespace Go.Proofs.YtopfodhjlhpdmaaGreatDoor
namespace AE
open Go
theorem arityF_kind {k : Int} (h : 0 ≤ arityF k) : 0 ≤ k ∧ k ≤ 7 := by
  unfold arityF at h
  repeat' split at h
  all_goals omega
mutual
theorem leftF_nodes : ∀ (f : Fun) (most : Int), 1 ≤ most → leftF f most = max (most - f.nodes) 0
  | .mk k n l, most, h => by
    rw [leftF, leftL_nodes l (most - 1) (by omega), Fun.nodes_eq]
    simp only [Fun.args_mk]
    omega
theorem leftL_nodes : ∀ (l : List Fun) (q : Int), 0 ≤ q → leftL l q = max (q - Fun.nodesL l) 0
  | [], q, h => by rw [leftL, Fun.nodesL]; omega
  | f :: r, q, h => by
    rw [leftL, Fun.nodesL]
    split
    · rw [leftF_nodes f q (by omega), leftL_nodes r _ (by omega)]
      omega
    · have := f.nodes_pos
      omega
end
mutual
theorem validF_spec : ∀ (f : Fun) (left deep : Int), 0 ≤ left → ((validF f left deep).1 = true ↔ ((f.nodes : Int) ≤ left ∧ deep - 1 + f.depth ≤ 8 ∧ shapedF f = true)) ∧ ((validF f left deep).1 = true → (validF f left deep).2 = left - f.nodes)
  | .mk k n l, left, deep, h => by
    rw [validF, Fun.nodes_eq, Fun.depth_eq, shapedF]
    simp only [Fun.args_mk]
    split
    · rename_i hc
      simp only [Bool.false_eq_true, false_iff, false_implies, and_true, Bool.and_eq_true, decide_eq_true_eq]
      rintro ⟨h1, h2, ⟨⟨h3, h4⟩, h5⟩, h6⟩
      have := arityF_kind (k := k) (by rw [← h3]; omega)
      omega
    · rename_i hc
      simp only [not_or, Int.not_lt, Decidable.not_not] at hc
      have := validL_spec l (left - 1) deep (by omega) (by omega)
      simp only [Bool.and_eq_true, decide_eq_true_eq]
      refine ⟨this.1.trans ⟨fun ⟨a, b, c⟩ => ⟨by omega, by omega, ⟨⟨hc.2.2.2.2.1, by omega⟩, by omega⟩, c⟩, fun ⟨a, b, c⟩ => ⟨by omega, by omega, c.2⟩⟩, fun hv => ?_⟩
      rw [this.2 hv]
      omega
theorem validL_spec : ∀ (l : List Fun) (left deep : Int), 0 ≤ left → deep ≤ 8 → ((validL l left deep).1 = true ↔ ((Fun.nodesL l : Int) ≤ left ∧ deep + Fun.depthL l ≤ 8 ∧ shapedL l = true)) ∧ ((validL l left deep).1 = true → (validL l left deep).2 = left - Fun.nodesL l)
  | [], left, deep, h, hd => by
    rw [validL, Fun.nodesL, Fun.depthL, shapedL]
    simp
    omega
  | f :: r, left, deep, h, hd => by
    rw [validL, Fun.nodesL, Fun.depthL, shapedL]
    have h1 := validF_spec f left (deep + 1) h
    simp only [Bool.and_eq_true]
    split
    · rename_i hv
      have h2 := h1.2 hv
      have h3 := h1.1.1 hv
      have h4 := validL_spec r (left - f.nodes) deep (by omega) hd
      rw [h2]
      refine ⟨h4.1.trans ⟨fun ⟨a, b, c⟩ => ⟨by omega, by omega, h3.2.2, c⟩, fun ⟨a, b, c⟩ => ⟨by omega, by omega, c.2⟩⟩, fun hv' => ?_⟩
      rw [h4.2 hv']
      omega
    · rename_i hv
      simp only [Bool.false_eq_true, false_iff, false_implies, and_true]
      rintro ⟨a, b, c, d⟩
      exact hv (h1.1.2 ⟨by omega, by omega, c⟩)
end
theorem okF_iff (f : Fun) : okF f = true ↔ f.nodes ≤ 20 ∧ f.depth ≤ 8 ∧ shapedF f = true := by
  unfold okF
  rw [(validF_spec f 20 1 (by omega)).1]
  constructor
  · rintro ⟨a, b, c⟩; exact ⟨by omega, by omega, c⟩
  · rintro ⟨a, b, c⟩; exact ⟨by omega, by omega, c⟩
theorem isF_okF (f : Fun) : isF f = okF f := by
  rw [Bool.eq_iff_iff, okF_iff, isF]
  simp only [Bool.and_eq_true, decide_eq_true_eq]
  rw [leftF_nodes f 21 (by omega)]
  constructor
  · rintro ⟨⟨a, b⟩, c⟩; exact ⟨by omega, b, c⟩
  · rintro ⟨a, b, c⟩; exact ⟨⟨by omega, b⟩, c⟩
def arityA (op : Int) : Int := if op = 0 then 0 else if op = 5 then 0 else if op = 2 then 2 else if 0 ≤ op ∧ op ≤ 13 then 1 else -1
def kindO (op : Int) : Int := if op = 4 then 0 else if op = 5 then 1 else if op = 6 then 2 else if op = 7 then 2 else if op = 8 then 3 else if op = 9 then 3 else if op = 10 then 4 else if op = 11 then 5 else if op = 12 then 6 else if op = 13 then 7 else -1
def numsA (f : Fun) (op n m : Int) : Bool :=
  if op = 5 ∨ op = 10 then decide (0 ≤ n) && decide (n < f.num) && decide (m = 0)
  else if op = 12 then decide (1 ≤ n) && decide (n ≤ 1048576) && decide (m = 0)
  else if op = 13 then decide (1 ≤ n) && decide (n ≤ m) && decide (m ≤ 1048576)
  else decide (n = 0) && decide (m = 0)
def partA (f : Fun) (op : Int) : Fun := f.args.getD (if op = 7 ∨ op = 9 then 1 else 0) f
def ctxA (top : Fun) (g : Option Fun) (op n m : Int) : Option (Option Fun) :=
  if op ≤ 2 then (if n = 0 ∧ m = 0 then some g else none)
  else if op = 3 then (if n = 0 ∧ m = 0 ∧ g.isNone = true then some (some top) else none)
  else match g with
    | none => none
    | some f => if f.kind = kindO op ∧ numsA f op n m = true then some (if op = 4 then none else some (partA f op)) else none
mutual
def okA (top : Fun) : Option Fun → Fm → Bool
  | g, .mk op n m l => decide ((l.length : Int) = arityA op) && (match ctxA top g op n m with
    | none => false
    | some g' => okAL top g' l)
def okAL (top : Fun) : Option Fun → List Fm → Bool
  | _, [] => true
  | g, a :: r => okA top g a && okAL top g r
end
theorem okA_eq (top : Fun) (g : Option Fun) (a : Fm) : okA top g a = (decide ((a.args.length : Int) = arityA a.op) && (match ctxA top g a.op a.num a.mun with | none => false | some g' => okAL top g' a.args)) := by cases a; rw [okA]; rfl
theorem okAL_drop {top : Fun} {g : Option Fun} {l : List Fm} {i : Nat} (h : i < l.length) : okAL top g (l.drop i) = (okA top g l[i] && okAL top g (l.drop (i + 1))) := by rw [List.drop_eq_getElem_cons h, okAL]
mutual
def validA (top : Fun) : Option Fun → Fm → Int → Int → Bool × Int
  | g, .mk op n m l, left, deep =>
    if left - 1 < 0 ∨ 100 < deep ∨ op < 0 ∨ 13 < op ∨ ¬ (l.length : Int) = arityA op then (false, left - 1)
    else match ctxA top g op n m with
      | none => (false, left - 1)
      | some g' => validAL top g' l (left - 1) deep
def validAL (top : Fun) : Option Fun → List Fm → Int → Int → Bool × Int
  | _, [], left, deep => (true, left)
  | g, a :: r, left, deep => if (validA top g a left (deep + 1)).1 then validAL top g r (validA top g a left (deep + 1)).2 deep else (false, (validA top g a left (deep + 1)).2)
end
theorem validA_eq (top : Fun) (g : Option Fun) (a : Fm) (left deep : Int) : validA top g a left deep = if left - 1 < 0 ∨ 100 < deep ∨ a.op < 0 ∨ 13 < a.op ∨ ¬ (a.args.length : Int) = arityA a.op then (false, left - 1)
    else match ctxA top g a.op a.num a.mun with
      | none => (false, left - 1)
      | some g' => validAL top g' a.args (left - 1) deep := by cases a; rw [validA]; rfl
theorem validAL_one (top : Fun) (g : Option Fun) (a : Fm) (left deep : Int) : validAL top g [a] left deep = validA top g a left (deep + 1) := by
  rw [validAL, validAL]
  obtain ⟨b, q⟩ := validA top g a left (deep + 1)
  cases b <;> rfl
mutual
theorem validA_le (top : Fun) : ∀ (g : Option Fun) (a : Fm) (left deep : Int), (validA top g a left deep).2 ≤ left ∧ min left 0 - 1 ≤ (validA top g a left deep).2
  | g, .mk op n m l, left, deep => by
    rw [validA]
    split
    · simp only; omega
    · rename_i h
      split
      · simp only; omega
      · rename_i g' _
        have := validAL_le top g' l (left - 1) deep (by omega)
        omega
theorem validAL_le (top : Fun) : ∀ (g : Option Fun) (l : List Fm) (left deep : Int), 0 ≤ left → (validAL top g l left deep).2 ≤ left ∧ -1 ≤ (validAL top g l left deep).2
  | g, [], left, deep, h => by rw [validAL]; simp only; omega
  | g, a :: r, left, deep, h => by
    rw [validAL]
    have h1 := validA_le top g a left (deep + 1)
    split
    · by_cases h2 : 0 ≤ (validA top g a left (deep + 1)).2
      · have := validAL_le top g r (validA top g a left (deep + 1)).2 deep h2
        omega
      · rename_i hv
        exfalso
        have := validA_pos top g a left (deep + 1) hv
        omega
    · simp only; omega
theorem validA_pos (top : Fun) : ∀ (g : Option Fun) (a : Fm) (left deep : Int), (validA top g a left deep).1 = true → 0 ≤ (validA top g a left deep).2
  | g, .mk op n m l, left, deep, h => by
    rw [validA] at h ⊢
    split
    · rename_i hc; rw [if_pos hc] at h; cases h
    · rename_i hc
      rw [if_neg hc] at h
      split
      · rename_i hx; rw [hx] at h; cases h
      · rename_i g' hx; rw [hx] at h; exact validAL_pos top g' l (left - 1) deep (by omega) h
theorem validAL_pos (top : Fun) : ∀ (g : Option Fun) (l : List Fm) (left deep : Int), 0 ≤ left → (validAL top g l left deep).1 = true → 0 ≤ (validAL top g l left deep).2
  | g, [], left, deep, h, hv => by rw [validAL]; exact h
  | g, a :: r, left, deep, h, hv => by
    rw [validAL] at hv ⊢
    split
    · rename_i hc
      rw [if_pos hc] at hv
      exact validAL_pos top g r _ deep (validA_pos top g a left (deep + 1) hc) hv
    · rename_i hc; rw [if_neg hc] at hv; cases hv
end
mutual
def Fm.depth : Fm → Nat
  | .mk _ _ _ l => 1 + Fm.depthL l
def Fm.depthL : List Fm → Nat
  | [] => 0
  | f :: r => max f.depth (Fm.depthL r)
end
theorem Fm.depth_eq (f : Fm) : f.depth = 1 + Fm.depthL f.args := by cases f; rw [Fm.depth]; rfl
theorem Fm.depthL_drop {l : List Fm} {i : Nat} (h : i < l.length) : Fm.depthL (l.drop i) = max l[i].depth (Fm.depthL (l.drop (i + 1))) := by rw [List.drop_eq_getElem_cons h, Fm.depthL]
mutual
theorem Fm.depth_le : ∀ f : Fm, f.depth ≤ f.nodes
  | .mk _ _ _ l => by rw [Fm.depth, Fm.nodes]; have := Fm.depthL_le l; omega
theorem Fm.depthL_le : ∀ l : List Fm, Fm.depthL l ≤ Fm.nodesL l
  | [] => by rw [Fm.depthL]; omega
  | f :: r => by rw [Fm.depthL, Fm.nodesL]; have := Fm.depth_le f; have := Fm.depthL_le r; omega
end
mutual
def Fm.steps : Fm → Nat
  | .mk op _ _ l => Fm.stepsL l + if op = 3 then 1 else 0
def Fm.stepsL : List Fm → Nat
  | [] => 0
  | f :: r => max f.steps (Fm.stepsL r)
end
theorem Fm.steps_eq (f : Fm) : f.steps = Fm.stepsL f.args + if f.op = 3 then 1 else 0 := by cases f; rw [Fm.steps]; rfl
theorem Fm.stepsL_drop {l : List Fm} {i : Nat} (h : i < l.length) : Fm.stepsL (l.drop i) = max l[i].steps (Fm.stepsL (l.drop (i + 1))) := by rw [List.drop_eq_getElem_cons h, Fm.stepsL]
mutual
theorem Fm.steps_le : ∀ f : Fm, f.steps ≤ f.nodes
  | .mk op _ _ l => by rw [Fm.steps, Fm.nodes]; have := Fm.stepsL_le l; split <;> omega
theorem Fm.stepsL_le : ∀ l : List Fm, Fm.stepsL l ≤ Fm.nodesL l
  | [] => by rw [Fm.stepsL]; omega
  | f :: r => by rw [Fm.stepsL, Fm.nodesL]; have := Fm.steps_le f; have := Fm.stepsL_le r; omega
end
mutual
def leftA : Fm → Int → Int
  | .mk _ _ _ l, most => max (leftAL l (most - 1)) 0
def leftAL : List Fm → Int → Int
  | [], most => most
  | f :: r, most => if 0 < most then leftAL r (leftA f most) else most
end
theorem leftA_eq (f : Fm) (most : Int) : leftA f most = max (leftAL f.args (most - 1)) 0 := by cases f; rw [leftA]; rfl
theorem leftAL_drop {l : List Fm} {i : Nat} (h : i < l.length) (most : Int) : leftAL (l.drop i) most = if 0 < most then leftAL (l.drop (i + 1)) (leftA l[i] most) else most := by
  rw [List.drop_eq_getElem_cons h, leftAL]
mutual
theorem leftA_le : ∀ (f : Fm) (most : Int), 0 ≤ leftA f most ∧ leftA f most ≤ max (most - 1) 0
  | .mk k n m l, most => by
    rw [leftA]
    have := leftAL_le l (most - 1)
    omega
theorem leftAL_le : ∀ (l : List Fm) (most : Int), leftAL l most ≤ max most 0
  | [], most => by rw [leftAL]; omega
  | f :: r, most => by
    rw [leftAL]
    split
    · have h1 := leftA_le f most
      have h2 := leftAL_le r (leftA f most)
      omega
    · omega
end
mutual
theorem leftA_nodes : ∀ (f : Fm) (most : Int), 1 ≤ most → leftA f most = max (most - f.nodes) 0
  | .mk k n m l, most, h => by
    rw [leftA, leftAL_nodes l (most - 1) (by omega), Fm.nodes_eq]
    simp only [Fm.args_mk]
    omega
theorem leftAL_nodes : ∀ (l : List Fm) (q : Int), 0 ≤ q → leftAL l q = max (q - Fm.nodesL l) 0
  | [], q, h => by rw [leftAL, Fm.nodesL]; omega
  | f :: r, q, h => by
    rw [leftAL, Fm.nodesL]
    split
    · rw [leftA_nodes f q (by omega), leftAL_nodes r _ (by omega)]
      omega
    · have := f.nodes_pos
      omega
end
theorem arityA_op {op : Int} (h : 0 ≤ arityA op) : 0 ≤ op ∧ op ≤ 13 := by
  unfold arityA at h
  split at h
  · omega
  split at h
  · omega
  split at h
  · omega
  split at h
  · assumption
  · omega
mutual
theorem validA_spec (top : Fun) : ∀ (g : Option Fun) (a : Fm) (left deep : Int), 0 ≤ left → ((validA top g a left deep).1 = true ↔ ((a.nodes : Int) ≤ left ∧ deep - 1 + a.depth ≤ 100 ∧ okA top g a = true)) ∧ ((validA top g a left deep).1 = true → (validA top g a left deep).2 = left - a.nodes)
  | g, .mk op n m l, left, deep, h => by
    rw [validA, Fm.nodes_eq, Fm.depth_eq, okA]
    simp only [Fm.args_mk]
    split
    · rename_i hc
      simp only [Bool.false_eq_true, false_iff, false_implies, and_true, Bool.and_eq_true, decide_eq_true_eq]
      rintro ⟨h1, h2, h3, h4⟩
      have := arityA_op (op := op) (by rw [← h3]; omega)
      omega
    · rename_i hc
      simp only [not_or, Int.not_lt, Decidable.not_not] at hc
      cases hx : ctxA top g op n m with
      | none => simp
      | some g' =>
        have := validAL_spec top g' l (left - 1) deep (by omega) (by omega)
        simp only [Bool.and_eq_true, decide_eq_true_eq]
        refine ⟨this.1.trans ⟨fun ⟨a, b, c⟩ => ⟨by omega, by omega, hc.2.2.2.2, c⟩, fun ⟨a, b, c⟩ => ⟨by omega, by omega, c.2⟩⟩, fun hv => ?_⟩
        rw [this.2 hv]
        omega
theorem validAL_spec (top : Fun) : ∀ (g : Option Fun) (l : List Fm) (left deep : Int), 0 ≤ left → deep ≤ 100 → ((validAL top g l left deep).1 = true ↔ ((Fm.nodesL l : Int) ≤ left ∧ deep + Fm.depthL l ≤ 100 ∧ okAL top g l = true)) ∧ ((validAL top g l left deep).1 = true → (validAL top g l left deep).2 = left - Fm.nodesL l)
  | g, [], left, deep, h, hd => by
    rw [validAL, Fm.nodesL, Fm.depthL, okAL]
    simp
    omega
  | g, f :: r, left, deep, h, hd => by
    rw [validAL, Fm.nodesL, Fm.depthL, okAL]
    have h1 := validA_spec top g f left (deep + 1) h
    simp only [Bool.and_eq_true]
    split
    · rename_i hv
      have h2 := h1.2 hv
      have h3 := h1.1.1 hv
      have h4 := validAL_spec top g r (left - f.nodes) deep (by omega) hd
      rw [h2]
      refine ⟨h4.1.trans ⟨fun ⟨a, b, c⟩ => ⟨by omega, by omega, h3.2.2, c⟩, fun ⟨a, b, c⟩ => ⟨by omega, by omega, c.2⟩⟩, fun hv' => ?_⟩
      rw [h4.2 hv']
      omega
    · rename_i hv
      simp only [Bool.false_eq_true, false_iff, false_implies, and_true]
      rintro ⟨a, b, c, d⟩
      exact hv (h1.1.2 ⟨by omega, by omega, c⟩)
end
def isFm (f : Fun) (a : Fm) : Bool := decide (a.nodes ≤ 2000) && decide (a.depth ≤ 100) && okA f none a
theorem valid_isFm (f : Fun) (a : Fm) : (validA f none a 2000 1).1 = isFm f a := by
  rw [Bool.eq_iff_iff, (validA_spec f none a 2000 1 (by omega)).1, isFm]
  simp only [Bool.and_eq_true, decide_eq_true_eq]
  constructor
  · rintro ⟨a, b, c⟩; exact ⟨⟨by omega, by omega⟩, c⟩
  · rintro ⟨⟨a, b⟩, c⟩; exact ⟨by omega, by omega, c⟩
mutual
def sameA : Fm → Fm → Bool
  | .mk k n m l, .mk k' n' m' l' => decide (k = k') && decide (n = n') && decide (m = m') && sameAL l l'
def sameAL : List Fm → List Fm → Bool
  | [], [] => true
  | f :: r, g :: s => sameA f g && sameAL r s
  | _, _ => false
end
mutual
theorem sameA_iff : ∀ f g : Fm, sameA f g = true ↔ f = g
  | .mk k n m l, .mk k' n' m' l' => by rw [sameA]; simp [sameAL_iff l l', and_assoc]
theorem sameAL_iff : ∀ f g : List Fm, sameAL f g = true ↔ f = g
  | [], [] => by simp [sameAL]
  | f :: r, g :: s => by rw [sameAL]; simp [sameA_iff f g, sameAL_iff r s]
  | [], g :: s => by simp [sameAL]
  | f :: r, [] => by simp [sameAL]
end
theorem sameA_eq (f g : Fm) : sameA f g = (decide (f.op = g.op) && decide (f.num = g.num) && decide (f.mun = g.mun) && sameAL f.args g.args) := by cases f; cases g; rw [sameA]; rfl
theorem sameAL_length : ∀ {l r : List Fm}, sameAL l r = true → l.length = r.length := fun h => by rw [(sameAL_iff _ _).1 h]
theorem sameAL_drop {l r : List Fm} {i : Nat} (h : i < l.length) (h' : i < r.length) : sameAL (l.drop i) (r.drop i) = (sameA l[i] r[i] && sameAL (l.drop (i + 1)) (r.drop (i + 1))) := by
  rw [List.drop_eq_getElem_cons h, List.drop_eq_getElem_cons h', sameAL]
theorem sameAL_ne {l r : List Fm} (h : ¬ l.length = r.length) : sameAL l r = false := by
  cases hs : sameAL l r
  · rfl
  · exact absurd (sameAL_length hs) h
theorem shaped_kind {f : Fun} (h : shapedF f = true) : (f.kind = 0 ∧ f.args.length = 0) ∨ (f.kind = 1 ∧ f.args.length = 0) ∨ (f.kind = 2 ∧ f.args.length = 2) ∨ (f.kind = 3 ∧ f.args.length = 2) ∨ (f.kind = 4 ∧ f.args.length = 1) ∨ (f.kind = 5 ∧ f.args.length = 1) ∨ (f.kind = 6 ∧ f.args.length = 1) ∨ (f.kind = 7 ∧ f.args.length = 1) := by
  rw [shapedF_eq] at h
  simp only [Bool.and_eq_true, decide_eq_true_eq] at h
  have h1 := h.1.1.1
  unfold arityF at h1
  repeat' split at h1
  all_goals omega
theorem shaped_num {f : Fun} (h : shapedF f = true) : 0 ≤ f.num ∧ f.num ≤ 16 ∧ (f.kind = 4 → 1 ≤ f.num ∧ f.num ≤ 4) ∧ (f.kind = 1 → 1 ≤ f.num) := by
  rw [shapedF_eq] at h
  simp only [Bool.and_eq_true, decide_eq_true_eq] at h
  have h1 := h.1.1.2
  have h2 := h.1.2
  unfold mostF at h1 h2
  repeat' split at h1
  all_goals (try split at h2) <;> (try split at h2) <;> omega
theorem shapedL_at : ∀ {l : List Fun} {i : Nat} (hi : i < l.length), shapedL l = true → shapedF l[i] = true
  | f :: r, 0, _, h => by rw [shapedL, Bool.and_eq_true] at h; exact h.1
  | f :: r, i + 1, hi, h => by 
    rw [shapedL, Bool.and_eq_true] at h
    have := shapedL_at (l := r) (i := i) (by simpa using hi) h.2
    simpa using this
theorem shaped_arg {f : Fun} (h : shapedF f = true) {i : Nat} (hi : i < f.args.length) : shapedF f.args[i] = true := by
  rw [shapedF_eq] at h
  simp only [Bool.and_eq_true, decide_eq_true_eq] at h
  exact shapedL_at hi h.2
set_option maxHeartbeats 1000000 in
theorem ev_leftA (N : Nat) : ∀ (f : Fm), f.nodes ≤ N → ∀ (most : Int) (m : Mem), -1000000000 ≤ most → most ≤ 1000000000 → evCall C0 33 [.agg f.cells, .int .i64 most] m = some (.ret (.int .i64 (leftA f most)), m) := by
  induction N with
  | zero => intro f hN; have := f.nodes_pos; omega
  | succ N ih =>
  intro f hN most m h1 h2
  rw [evCall_body C0 (C0_ext _ (by decide)) (by rw [C0_P]; exact Tryz.func33) rfl (by rw [C0_ann]; rfl) (by rw [C0_ann]; rfl) (by decide) (by simp [Tryz.f33])]
  have w1 : IntKind.i64.wrap (most - 1) = most - 1 := wrap_id _ (by omega)
  simp [Tryz.f33, a33, reg33, loop33, w1]
  refine loop_in (fun x : Nat × Int => ⟨[(1, .int .i64 x.2), (2, .ptr m.bx.length 0), (5, .int .i64 x.1)], ⟨m.bx ++ [f.cells], m.rw⟩⟩)
    (fun x => some (.ret (.int .i64 (max (leftAL (f.args.drop x.1) x.2) 0)), m)) (fun x => f.args.length - x.1) (fun x => x.1 ≤ f.args.length ∧ x.2 ≤ 1000000000 - x.1 ∧ -1000000001 ≤ x.2) (0, most - 1) ?_ ?_ ?_ ?_ ?_
  · simp
  · simp [leftA_eq]
  · simp; omega
  · intro x; simp [Tryz.f33, a33, reg33, loop33]
  · rintro ⟨i, q⟩ hI hrec
    simp only at hI
    obtain ⟨hi, hq1, hq2⟩ := hI
    by_cases hlt : i < f.args.length
    · by_cases hq : 0 < q
      · have w2 : IntKind.i64.wrap (i + 1) = i + 1 := wrap_id _ (by omega)
        have he := ih f.args[i] (by have := Fm.nodes_arg (List.getElem_mem hlt); omega) q
        simp at he
        have hle := leftA_le f.args[i] q
        clear ih
        have h3 : (i + 1) * 4 ≤ f.args.length * 4 := by omega
        simp [round, Tryz.f33, a33, reg33, loop33, hlt, hq, w2, h3, he _ (show -1000000000 ≤ q by omega) (show q ≤ 1000000000 by omega)]
        refine hrec (i + 1, leftA f.args[i] q) _ _ ?_ ?_ ?_ ?_
        · simp; omega
        · simp; omega
        · simp
        · simp only
          rw [leftAL_drop hlt, if_pos hq]
      · clear hrec ih
        simp [round, Tryz.f33, a33, reg33, loop33, hlt, hq]
        rw [leftAL_drop hlt, if_neg hq]
    · clear hrec ih
      simp [round, Tryz.f33, a33, reg33, loop33, hlt]
      rw [List.drop_eq_nil_of_le (by omega), leftAL]
theorem ev_FewA (f : Fm) (most : Int) (m : Mem) (h1 : -100000000 ≤ most) (h2 : most ≤ 100000000) : evCall C0 8 [.agg f.cells, .int .i64 most] m = some (.ret (.bool (decide (0 < leftA f (most + 1)))), m) := by
  rw [evCall_body C0 (C0_ext _ (by decide)) (by rw [C0_P]; exact Tryz.func8) rfl (by rw [C0_ann]; rfl) (by rw [C0_ann]; rfl) (by decide) (by simp [Tryz.f8])]
  have w1 : IntKind.i64.wrap (most + 1) = most + 1 := wrap_id _ (by omega)
  have he := ev_leftA f.nodes f (Nat.le_refl _) (most + 1)
  simp at he
  simp [Tryz.f8, a8, reg8, w1, he _ (show -1000000000 ≤ most + 1 by omega) (show most + 1 ≤ 1000000000 by omega)]
set_option maxHeartbeats 1000000 in
theorem ev_RSizeA (N : Nat) : ∀ (f : Fm), f.nodes ≤ N → f.nodes ≤ 1000000000 → ∀ (m : Mem), evCall C0 27 [.agg f.cells] m = some (.ret (.tup [.int .i64 f.nodes, .int .i64 f.depth, .int .i64 f.steps]), m) := by
  induction N with
  | zero => intro f hN; have := f.nodes_pos; omega
  | succ N ih =>
  intro f hN hb m
  rw [evCall_body C0 (C0_ext _ (by decide)) (by rw [C0_P]; exact Tryz.func27) rfl (by rw [C0_ann]; rfl) (by rw [C0_ann]; rfl) (by decide) (by simp [Tryz.f27])]
  simp [Tryz.f27, a27, reg27, loop27]
  have hn := Fm.nodes_eq f
  refine loop_in (fun x : Nat × Nat × Nat × Nat => ⟨[(1, .ptr m.bx.length 0), (2, .int .i64 x.2.1), (3, .int .i64 x.2.2.1), (4, .int .i64 x.2.2.2), (11, .isl false f.args.length (Fm.cellsL f.args)), (12, .int .i64 f.args.length), (13, .int .i64 x.1)], ⟨m.bx ++ [f.cells], m.rw⟩⟩)
    (fun x => some (.ret (.tup [.int .i64 (x.2.1 + Fm.nodesL (f.args.drop x.1) : Nat), .int .i64 (1 + max x.2.2.1 (Fm.depthL (f.args.drop x.1)) : Nat), .int .i64 ((max x.2.2.2 (Fm.stepsL (f.args.drop x.1)) + if f.op = 3 then 1 else 0) : Nat)]), m)) (fun x => f.args.length - x.1) (fun x => x.1 ≤ f.args.length ∧ x.2.1 + Fm.nodesL (f.args.drop x.1) ≤ 1000000000 ∧ x.2.2.1 ≤ 1000000001 ∧ 0 ≤ x.2.2.1 ∧ x.2.2.2 ≤ 1000000001) (0, 1, 0, 0) ?_ ?_ ?_ ?_ ?_
  · simp
  · simp [Fm.depth_eq, Fm.steps_eq, hn]
  · simp; omega
  · intro x; simp [Tryz.f27, a27, reg27, loop27]
  · rintro ⟨i, a, b, s⟩ hI hrec
    simp only at hI
    obtain ⟨hi, ha, hbb, hb1, hss⟩ := hI
    have hlen := f.length_args
    by_cases hlt : i < f.args.length
    · have w2 : IntKind.i64.wrap (i + 1) = i + 1 := wrap_id _ (by omega)
      have hmem := Fm.nodes_arg (List.getElem_mem hlt)
      have he := ih f.args[i] (by omega) (by omega)
      simp at he
      have hd := Fm.depth_le f.args[i]
      have hs := Fm.steps_le f.args[i]
      rw [Fm.nodesL_drop hlt] at ha
      have w3 : IntKind.i64.wrap (a + f.args[i].nodes) = a + f.args[i].nodes := wrap_id _ (by omega)
      have w4 : IntKind.i64.wrap (f.args[i].depth + 1) = f.args[i].depth + 1 := wrap_id _ (by omega)
      clear ih
      have h3 : (i + 1) * 4 ≤ f.args.length * 4 := by omega
      simp [round, Tryz.f27, a27, reg27, loop27, hlt, w2, w3, w4, h3, he, endRound_M]
      refine hrec (i + 1, a + f.args[i].nodes, max b (f.args[i].depth), max s f.args[i].steps) _ _ ?_ ?_ ?_ ?_
      · simp; omega
      · simp; omega
      · simp; omega
      · simp only
        rw [Fm.nodesL_drop hlt, Fm.depthL_drop hlt, Fm.stepsL_drop hlt]
        simp; omega
    · clear hrec ih
      have w5 : IntKind.i64.wrap (s + 1) = s + 1 := wrap_id _ (by omega)
      have w6 : IntKind.i64.wrap (b + 1) = b + 1 := wrap_id _ (by omega)
      rw [List.drop_eq_nil_of_le (by omega), Fm.nodesL, Fm.depthL, Fm.stepsL]
      by_cases h3 : f.op = 3
      · simp [round, Tryz.f27, a27, reg27, loop27, hlt, h3, w5, w6]
        omega
      · simp [round, Tryz.f27, a27, reg27, loop27, hlt, h3, w6]
        omega
set_option maxHeartbeats 2000000 in
theorem ev_RSameA (N : Nat) : ∀ (f g : Fm), f.nodes ≤ N → f.nodes ≤ 1000000000 → ∀ (m : Mem), evCall C0 14 [.agg f.cells, .agg g.cells] m = some (.ret (.bool (sameA f g)), m) := by
  induction N with
  | zero => intro f g hN; have := f.nodes_pos; omega
  | succ N ih =>
  intro f g hN hb m
  rw [evCall_body C0 (C0_ext _ (by decide)) (by rw [C0_P]; exact Tryz.func14) rfl (by rw [C0_ann]; rfl) (by rw [C0_ann]; rfl) (by decide) (by simp [Tryz.f14])]
  rw [sameA_eq]
  by_cases c1 : f.op = g.op
  case neg => simp [Tryz.f14, a14, reg14, loop14, draw14, dok14, c1]
  by_cases c2 : f.num = g.num
  case neg => simp [Tryz.f14, a14, reg14, loop14, draw14, dok14, eq_true c1, c2]
  by_cases c2' : f.mun = g.mun
  case neg => simp [Tryz.f14, a14, reg14, loop14, draw14, dok14, eq_true c1, eq_true c2, c2']
  by_cases c3 : f.args.length = g.args.length
  case neg =>
    have d3 : ¬ (f.args.length : Int) = g.args.length := by omega
    simp [Tryz.f14, a14, reg14, loop14, draw14, dok14, eq_true c1, eq_true c2, eq_true c2', d3, sameAL_ne c3]
  have d3 : (f.args.length : Int) = g.args.length := by omega
  simp [Tryz.f14, a14, reg14, loop14, draw14, dok14, eq_true c1, eq_true c2, eq_true c2', eq_true d3]
  refine loop_in (fun i : Nat => ⟨[(2, .ptr m.bx.length 0), (3, .ptr (m.bx.length + 1) 0), (36, .int .i64 f.args.length), (37, .int .i64 i)], ⟨m.bx ++ [f.cells, g.cells], m.rw⟩⟩)
    (fun i => some (.ret (.bool (sameAL (f.args.drop i) (g.args.drop i))), m)) (fun i => f.args.length - i) (fun i => i ≤ f.args.length) 0 ?_ ?_ ?_ ?_ ?_
  · simp
  · simp
  · simp
  · intro x; simp [Tryz.f14, a14, reg14, loop14, draw14, dok14]
  · intro i hi hrec
    have hlen := f.length_args
    by_cases hlt : i < f.args.length
    · have w2 : IntKind.i64.wrap (i + 1) = i + 1 := wrap_id _ (by omega)
      have hlt' : i < g.args.length := by omega
      have hmem := Fm.nodes_arg (List.getElem_mem hlt)
      have he := ih f.args[i] g.args[i] (by omega) (by omega)
      simp at he
      clear ih
      have h3 : (i + 1) * 4 ≤ f.args.length * 4 := by omega
      have h3' : (i + 1) * 4 ≤ g.args.length * 4 := by omega
      rw [sameAL_drop hlt hlt']
      cases hc : sameA f.args[i] g.args[i]
      · simp [round, Tryz.f14, a14, reg14, loop14, draw14, dok14, hlt, hlt', w2, h3, h3', he, hc]
      · simp [round, Tryz.f14, a14, reg14, loop14, draw14, dok14, hlt, hlt', w2, h3, h3', he, hc]
        refine hrec (i + 1) _ _ ?_ ?_ ?_ ?_
        · first | omega | (simp; omega)
        · first | omega | (simp; omega)
        · simp
        · simp
    · clear hrec ih
      simp [round, Tryz.f14, a14, reg14, loop14, draw14, dok14, hlt]
      rw [List.drop_eq_nil_of_le (by omega), List.drop_eq_nil_of_le (by omega), sameAL]
theorem loop_in2 {C : Cfg} {f nt : Nat} {σ : Type} (S : σ → St) (G : σ → Option (Res × Mem)) (meas : σ → Nat) (I : σ → Prop) (x : σ) {b : Code} {P : Program} {kp : Bool} {rs : List ResultVar} {m0 : Mem} {id id0 : Nat} {K1 K : St → Option (Ex × St)} {s0 : St} {r : Option (Res × Mem)}
    (hs : s0 = S x) (hr : G x = r) (hI : I x) (hp : ∀ x, prune (C.ann.loop f (headId b)) (S x).tm = (S x).tm)
    (h : ∀ x, I x → (∀ y s r, meas y < meas x → I y → s = S y → G y = r → finish P kp rs m0 (andThen (ofBlock id0 (andThen (ofBlock id (evCode C f nt (.loop b) s)) K1)) K) = r) → finish P kp rs m0 (andThen (ofBlock id0 (andThen (ofBlock id (andThen (round C f nt b (S x)) (evCode C f nt (.loop b)))) K1)) K) = G x) :
    finish P kp rs m0 (andThen (ofBlock id0 (andThen (ofBlock id (evCode C f nt (.loop b) s0)) K1)) K) = r := by
  subst hs hr
  exact loop_fin C f nt (fun z => finish P kp rs m0 (andThen (ofBlock id0 (andThen (ofBlock id z) K1)) K)) S G meas I hp (fun x hx hr => h x hx fun y s r h1 h2 h3 h4 => by subst h3 h4; exact hr y h1 h2) x hI
theorem ev_ArityA (k : Int) (m : Mem) : evCall C0 85 [.int .i64 k] m = some (.ret (.int .i64 (arityA k)), m) := by
  rw [evCall_body C0 (C0_ext _ (by decide)) (by rw [C0_P]; exact Tryz.func85) rfl (by rw [C0_ann]; rfl) (by rw [C0_ann]; rfl) (by decide) (by simp [Tryz.f85])]
  unfold arityA
  by_cases h0 : k = 0
  · simp [Tryz.f85, a85, reg85, h0]
  by_cases h5 : k = 5
  · simp [Tryz.f85, a85, reg85, h5]
  by_cases h2 : k = 2
  · simp [Tryz.f85, a85, reg85, h2]
  by_cases ha : 0 ≤ k
  · by_cases hb : k ≤ 13
    · simp [Tryz.f85, a85, reg85, h0, h5, h2, ha, hb]
    · simp [Tryz.f85, a85, reg85, h0, h5, h2, ha, hb]
  · simp [Tryz.f85, a85, reg85, h0, h5, h2, ha]
set_option maxHeartbeats 1000000 in
theorem ev_KindA (k : Int) (m : Mem) : evCall C0 126 [.int .i64 k] m = some (.ret (.int .i64 (kindO k)), m) := by
  rw [evCall_body C0 (C0_ext _ (by decide)) (by rw [C0_P]; exact Tryz.func126) rfl (by rw [C0_ann]; rfl) (by rw [C0_ann]; rfl) (by decide) (by simp [Tryz.f126])]
  unfold kindO
  by_cases h4 : k = 4
  · simp [Tryz.f126, a126, reg126, h4]
  by_cases h5 : k = 5
  · simp [Tryz.f126, a126, reg126, h5]
  by_cases h6 : k = 6
  · simp [Tryz.f126, a126, reg126, h6]
  by_cases h7 : k = 7
  · simp [Tryz.f126, a126, reg126, h7]
  by_cases h8 : k = 8
  · simp [Tryz.f126, a126, reg126, h8]
  by_cases h9 : k = 9
  · simp [Tryz.f126, a126, reg126, h9]
  by_cases h10 : k = 10
  · simp [Tryz.f126, a126, reg126, h10]
  by_cases h11 : k = 11
  · simp [Tryz.f126, a126, reg126, h11]
  by_cases h12 : k = 12
  · simp [Tryz.f126, a126, reg126, h12]
  by_cases h13 : k = 13
  · simp [Tryz.f126, a126, reg126, h13]
  simp [Tryz.f126, a126, reg126, h4, h5, h6, h7, h8, h9, h10, h11, h12, h13]
set_option maxHeartbeats 1000000 in
theorem ev_RNums (f : Fun) (a : Fm) (m : Mem) : evCall C0 125 [.agg f.cells, .agg a.cells] m = some (.ret (.bool (numsA f a.op a.num a.mun)), m) := by
  rw [evCall_body C0 (C0_ext _ (by decide)) (by rw [C0_P]; exact Tryz.func125) rfl (by rw [C0_ann]; rfl) (by rw [C0_ann]; rfl) (by decide) (by simp [Tryz.f125])]
  unfold numsA
  by_cases h5 : a.op = 5
  · by_cases c1 : 0 ≤ a.num
    · by_cases c2 : a.num < f.num
      · simp [Tryz.f125, a125, reg125, h5, c1, c2]
      · simp [Tryz.f125, a125, reg125, h5, c1, c2]
    · simp [Tryz.f125, a125, reg125, h5, c1]
  by_cases h10 : a.op = 10
  · by_cases c1 : 0 ≤ a.num
    · by_cases c2 : a.num < f.num
      · simp [Tryz.f125, a125, reg125, h10, c1, c2]
      · simp [Tryz.f125, a125, reg125, h10, c1, c2]
    · simp [Tryz.f125, a125, reg125, h10, c1]
  by_cases h12 : a.op = 12
  · by_cases c1 : 1 ≤ a.num
    · by_cases c2 : a.num ≤ 1048576
      · simp [Tryz.f125, a125, reg125, h12, c1, c2]
      · simp [Tryz.f125, a125, reg125, h12, c1, c2]
    · simp [Tryz.f125, a125, reg125, h12, c1]
  by_cases h13 : a.op = 13
  · by_cases c1 : 1 ≤ a.num
    · by_cases c2 : a.num ≤ a.mun
      · simp [Tryz.f125, a125, reg125, h13, c1, c2]
      · simp [Tryz.f125, a125, reg125, h13, c1, c2]
    · simp [Tryz.f125, a125, reg125, h13, c1]
  by_cases c1 : a.num = 0
  · simp [Tryz.f125, a125, reg125, h5, h10, h12, h13, c1]
  · simp [Tryz.f125, a125, reg125, h5, h10, h12, h13, c1]
theorem ev_RPart (f : Fun) (op : Int) (h : (if op = 7 ∨ op = 9 then 1 else 0) < f.args.length) (m : Mem) : evCall C0 127 [.agg f.cells, .int .i64 op] m = some (.ret (.agg (partA f op).cells), m) := by
  rw [evCall_body C0 (C0_ext _ (by decide)) (by rw [C0_P]; exact Tryz.func127) rfl (by rw [C0_ann]; rfl) (by rw [C0_ann]; rfl) (by decide) (by simp [Tryz.f127])]
  unfold partA
  by_cases h7 : op = 7
  · subst h7
    simp at h
    have h3 : 6 ≤ f.args.length * 3 := by omega
    have h' : (1 : Int) < f.args.length := by omega
    have hat := Fun.at_cellsL f.args 1 h
    have hg : f.args.getD 1 f = f.args[1] := by simp [h]
    simp at hat
    simp [Tryz.f127, a127, reg127, h, h', h3, hat, hg]
  by_cases h9 : op = 9
  · subst h9
    simp at h
    have h3 : 6 ≤ f.args.length * 3 := by omega
    have h' : (1 : Int) < f.args.length := by omega
    have hat := Fun.at_cellsL f.args 1 h
    have hg : f.args.getD 1 f = f.args[1] := by simp [h]
    simp at hat
    simp [Tryz.f127, a127, reg127, h, h', h3, hat, hg]
  · have hn : ¬ (op = 7 ∨ op = 9) := by omega
    rw [if_neg hn] at h ⊢
    have h3 : 3 ≤ f.args.length * 3 := by omega
    have hat := Fun.at_cellsL f.args 0 h
    have hg : f.args.getD 0 f = f.args[0] := by simp [h]
    simp at hat
    simp [Tryz.f127, a127, reg127, h7, h9, h, h3, hat, hg]
theorem okA_state (top : Fun) (a : Fm) : okA top none a = (decide ((a.args.length : Int) = arityA a.op) && (decide (a.num = 0) && decide (a.mun = 0)) && (if a.op = 3 then okAL top (some top) a.args else okAL top none a.args && (decide (a.op = 0) || decide (a.op = 1) || decide (a.op = 2)))) := by
  rw [okA_eq]
  by_cases h : (a.args.length : Int) = arityA a.op
  case neg => simp [h]
  obtain ⟨o0, o1⟩ := arityA_op (op := a.op) (by omega)
  unfold ctxA
  by_cases c1 : a.num = 0 ∧ a.mun = 0
  · rw [if_pos c1, if_pos (⟨c1.1, c1.2, rfl⟩ : a.num = 0 ∧ a.mun = 0 ∧ (none : Option Fun).isNone = true)]
    by_cases h2 : a.op ≤ 2
    · have h3 : ¬ a.op = 3 := by omega
      have h4 : (decide (a.op = 0) || decide (a.op = 1) || decide (a.op = 2)) = true := by simp; omega
      simp [h, h2, h3, c1.1, c1.2]
      omega
    · by_cases h3 : a.op = 3
      · simp [h, h3, c1.1, c1.2]
      · have h0 : ¬ a.op = 0 := by omega
        have h1 : ¬ a.op = 1 := by omega
        have h22 : ¬ a.op = 2 := by omega
        simp [h, h2, h3, c1.1, c1.2, h0, h1, h22]
  · rw [if_neg c1, if_neg (fun q : a.num = 0 ∧ a.mun = 0 ∧ (none : Option Fun).isNone = true => c1 ⟨q.1, q.2.1⟩)]
    have hd : (decide (a.num = 0) && decide (a.mun = 0)) = false := by
      simp only [Bool.and_eq_false_iff, decide_eq_false_iff_not]
      by_cases hn : a.num = 0
      · right; exact fun hm => c1 ⟨hn, hm⟩
      · left; exact hn
    rw [hd]
    by_cases h2 : a.op ≤ 2
    · simp [h2]
    · by_cases h3 : a.op = 3
      · simp [h3]
      · simp [h2, h3]
theorem okA_value (top g : Fun) (hg : 0 ≤ g.kind) (a : Fm) : okA top (some g) a = (decide ((a.args.length : Int) = arityA a.op) && numsA g a.op a.num a.mun && (if a.op = 0 ∨ a.op = 1 ∨ a.op = 2 then okAL top (some g) a.args else if kindO a.op = g.kind then (if a.op = 4 then okAL top none a.args else if a.op = 5 then true else okAL top (some (partA g a.op)) a.args) else false)) := by
  rw [okA_eq]
  by_cases h : (a.args.length : Int) = arityA a.op
  case neg => simp [h]
  obtain ⟨o0, o1⟩ := arityA_op (op := a.op) (by omega)
  by_cases h2 : a.op ≤ 2
  · have hn : numsA g a.op a.num a.mun = (decide (a.num = 0) && decide (a.mun = 0)) := by
      unfold numsA
      rw [if_neg (by omega), if_neg (by omega), if_neg (by omega)]
    have hc : a.op = 0 ∨ a.op = 1 ∨ a.op = 2 := by omega
    rw [hn, if_pos hc]
    unfold ctxA
    rw [if_pos h2]
    by_cases c1 : a.num = 0
    · by_cases c2 : a.mun = 0 <;> simp [h, c1, c2]
    · simp [c1]
  · have hc : ¬ (a.op = 0 ∨ a.op = 1 ∨ a.op = 2) := by omega
    rw [if_neg hc]
    unfold ctxA
    rw [if_neg h2]
    by_cases h3 : a.op = 3
    · have hk : ¬ kindO 3 = g.kind := by
        rw [show kindO 3 = -1 from rfl]; omega
      simp [h3, hk]
    rw [if_neg h3]
    dsimp only
    by_cases hk : kindO a.op = g.kind
    · rw [if_pos hk]
      cases hnm : numsA g a.op a.num a.mun
      · simp [hk, hnm]
      · rw [if_pos (⟨hk.symm, rfl⟩ : g.kind = kindO a.op ∧ true = true)]
        by_cases h4 : a.op = 4
        · simp [h, h4]
        · by_cases h5 : a.op = 5
          · have hl : a.args = [] := by
              rw [h5, show arityA 5 = 0 from rfl] at h
              exact List.eq_nil_of_length_eq_zero (by omega)
            simp [h5, hl, okAL]
            try rfl
          · simp [h, h4, h5]
    · rw [if_neg hk, if_neg (fun q : g.kind = kindO a.op ∧ numsA g a.op a.num a.mun = true => hk q.1.symm)]
      simp
theorem part_lt {g : Fun} {op : Int} (hg : shapedF g = true) (h0 : 6 ≤ op) (h1 : op ≤ 13) (hk : kindO op = g.kind) : (if op = 7 ∨ op = 9 then 1 else 0) < g.args.length := by
  have hs := shaped_kind hg
  have h : op = 6 ∨ op = 7 ∨ op = 8 ∨ op = 9 ∨ op = 10 ∨ op = 11 ∨ op = 12 ∨ op = 13 := by omega
  rcases h with rfl | rfl | rfl | rfl | rfl | rfl | rfl | rfl
  · have : g.kind = 2 := hk.symm
    simp; omega
  · have : g.kind = 2 := hk.symm
    simp; omega
  · have : g.kind = 3 := hk.symm
    simp; omega
  · have : g.kind = 3 := hk.symm
    simp; omega
  · have : g.kind = 4 := hk.symm
    simp; omega
  · have : g.kind = 5 := hk.symm
    simp; omega
  · have : g.kind = 6 := hk.symm
    simp; omega
  · have : g.kind = 7 := hk.symm
    simp; omega
theorem part_shaped {g : Fun} {op : Int} (hg : shapedF g = true) (h : (if op = 7 ∨ op = 9 then 1 else 0) < g.args.length) : shapedF (partA g op) = true := by
  unfold partA
  generalize (if op = 7 ∨ op = 9 then 1 else 0) = i at h
  have : g.args.getD i g = g.args[i] := by simp [h]
  rw [this]
  exact shaped_arg hg h
def SOk (a : Fm) : Prop := ∀ f, shapedF f = true → (∀ m, evCall C0 52 [.agg f.cells, .agg a.cells] m = some (.ret (.bool (okA f none a)), m)) ∧ (∀ g, shapedF g = true → ∀ m, evCall C0 90 [.agg f.cells, .agg g.cells, .agg a.cells] m = some (.ret (.bool (okA f (some g) a)), m))
theorem one_arg {a : Fm} (h : (a.args.length : Int) = arityA a.op) (h0 : ¬ a.op = 0) (h5 : ¬ a.op = 5) (h2 : ¬ a.op = 2) : ∃ b, a.args = [b] := by
  obtain ⟨o0, o1⟩ := arityA_op (op := a.op) (by omega)
  have : arityA a.op = 1 := by
    unfold arityA
    rw [if_neg h0, if_neg h5, if_neg h2, if_pos ⟨o0, o1⟩]
  rw [this] at h
  exact List.length_eq_one_iff.1 (by omega)
set_option maxHeartbeats 4000000 in
theorem ev_state1 (a : Fm) (hb : a.nodes ≤ 1000000000) (H : ∀ b, b ∈ a.args → SOk b) (f : Fun) (hf : shapedF f = true) (m : Mem) : evCall C0 52 [.agg f.cells, .agg a.cells] m = some (.ret (.bool (okA f none a)), m) := by
  rw [evCall_body C0 (C0_ext _ (by decide)) (by rw [C0_P]; exact Tryz.func52) rfl (by rw [C0_ann]; rfl) (by rw [C0_ann]; rfl) (by decide) (by simp [Tryz.f52])]
  rw [okA_state]
  have har := ev_ArityA a.op
  have hlen := a.length_args
  by_cases c1 : (a.args.length : Int) = arityA a.op
  case neg => simp [Tryz.f52, a52, reg52, loop52, draw52, dok52, har, c1]
  by_cases c2 : a.num = 0
  case neg => simp [Tryz.f52, a52, reg52, loop52, draw52, dok52, har, eq_true c1, c2]
  by_cases c3 : a.mun = 0
  case neg => simp [Tryz.f52, a52, reg52, loop52, draw52, dok52, har, eq_true c1, c2, c3]
  by_cases c4 : a.op = 3
  · obtain ⟨b, hb1⟩ := one_arg c1 (by omega) (by omega) (by omega)
    have he := fun m => (H b (by rw [hb1]; exact List.mem_cons_self) f hf).2 f hf m
    rw [c4, show arityA 3 = 1 from rfl] at har
    simp at he har
    rw [hb1, c4]
    simp [Tryz.f52, a52, reg52, loop52, draw52, dok52, har, c2, c3, c4, hb1, Fm.cellsL, he, okAL, show arityA 3 = 1 from rfl]
  simp [Tryz.f52, a52, reg52, loop52, draw52, dok52, har, eq_true c1, c2, c3, c4]
  refine loop_in (fun i : Nat => ⟨[(2, .ptr m.bx.length 0), (3, .ptr (m.bx.length + 1) 0), (35, .isl false a.args.length (Fm.cellsL a.args)), (36, .int .i64 a.args.length), (37, .int .i64 i)], ⟨m.bx ++ [f.cells, a.cells], m.rw⟩⟩)
    (fun i => some (.ret (.bool (okAL f none (a.args.drop i) && (decide (a.op = 0) || decide (a.op = 1) || decide (a.op = 2)))), m)) (fun i => a.args.length - i) (fun i => i ≤ a.args.length) 0 ?_ ?_ ?_ ?_ ?_
  · simp [c2, c3]
  · simp
  · simp
  · intro x; simp [Tryz.f52, a52, reg52, loop52, draw52, dok52]
  · intro i hi hrec
    by_cases hlt : i < a.args.length
    · have w2 : IntKind.i64.wrap (i + 1) = i + 1 := wrap_id _ (by omega)
      have h3 : (i + 1) * 4 ≤ a.args.length * 4 := by omega
      have he := fun m => (H a.args[i] (List.getElem_mem hlt) f hf).1 m
      simp at he
      rw [okAL_drop hlt]
      cases hc : okA f none a.args[i]
      · simp [hc] at he
        simp [round, Tryz.f52, a52, reg52, loop52, draw52, dok52, hlt, w2, h3, he]
      · simp [hc] at he
        simp [round, Tryz.f52, a52, reg52, loop52, draw52, dok52, hlt, w2, h3, he, endRound_M0, endRound_L]
        refine hrec (i + 1) _ _ ?_ ?_ ?_ ?_
        · omega
        · omega
        · simp
        · simp
    · clear hrec
      rw [List.drop_eq_nil_of_le (by omega), okAL]
      by_cases h0 : a.op = 0
      · simp [round, Tryz.f52, a52, reg52, loop52, draw52, dok52, hlt, h0]
      by_cases h1 : a.op = 1
      · simp [round, Tryz.f52, a52, reg52, loop52, draw52, dok52, hlt, h1]
      simp [round, Tryz.f52, a52, reg52, loop52, draw52, dok52, hlt, h0, h1]
set_option maxHeartbeats 8000000 in
theorem ev_value1 (a : Fm) (hb : a.nodes ≤ 1000000000) (H : ∀ b, b ∈ a.args → SOk b) (f : Fun) (hf : shapedF f = true) (g : Fun) (hg : shapedF g = true) (m : Mem) : evCall C0 90 [.agg f.cells, .agg g.cells, .agg a.cells] m = some (.ret (.bool (okA f (some g) a)), m) := by
  rw [evCall_body C0 (C0_ext _ (by decide)) (by rw [C0_P]; exact Tryz.func90) rfl (by rw [C0_ann]; rfl) (by rw [C0_ann]; rfl) (by decide) (by simp [Tryz.f90])]
  have hkg := shaped_kind hg
  rw [okA_value f g (by omega)]
  have har := ev_ArityA a.op
  have hnm := ev_RNums g a
  have hlen := a.length_args
  simp at hnm
  by_cases c1 : (a.args.length : Int) = arityA a.op
  case neg => simp [Tryz.f90, a90, reg90, loop90, draw90, dok90, har, c1]
  cases c2 : numsA g a.op a.num a.mun
  · simp [c2] at hnm
    simp [Tryz.f90, a90, reg90, loop90, draw90, dok90, har, eq_true c1, hnm]
  simp [c2] at hnm
  obtain ⟨o0, o1⟩ := arityA_op (op := a.op) (by omega)
  by_cases c3 : a.op = 0 ∨ a.op = 1 ∨ a.op = 2
  · rw [if_pos c3]
    have key : (decide (a.op = 0) || decide (a.op = 1) || decide (a.op = 2)) = true := by simp; omega
    have hgoal : ∀ x : Option (Res × Mem), x = some (.ret (.bool (okAL f (some g) a.args)), m) → x = some (.ret (.bool (decide ((a.args.length : Int) = arityA a.op) && true && okAL f (some g) a.args)), m) := fun x hx => by rw [hx]; simp [c1]
    refine hgoal _ ?_
    clear hgoal
    rcases c3 with h | h | h
    · have hop : a.op = 0 := by assumption
      rw [hop] at har c1 hnm
      simp [Tryz.f90, a90, reg90, loop90, draw90, dok90, har, eq_true c1, hnm, hop]
      refine loop_in2 (fun i : Nat => ⟨[(3, .ptr m.bx.length 0), (4, .ptr (m.bx.length + 1) 0), (37, .isl false a.args.length (Fm.cellsL a.args)), (38, .int .i64 a.args.length), (39, .int .i64 i)], ⟨m.bx ++ [f.cells, g.cells, a.cells], m.rw⟩⟩)
        (fun i => some (.ret (.bool (okAL f (some g) (a.args.drop i))), m)) (fun i => a.args.length - i) (fun i => i ≤ a.args.length) 0 ?_ ?_ ?_ ?_ ?_
      · simp [hop]
      · simp
      · simp
      · intro x; simp [Tryz.f90, a90, reg90, loop90, draw90, dok90]
      · intro i hi hrec
        by_cases hlt : i < a.args.length
        · have w2 : IntKind.i64.wrap (i + 1) = i + 1 := wrap_id _ (by omega)
          have h3 : (i + 1) * 4 ≤ a.args.length * 4 := by omega
          have he := fun m => (H a.args[i] (List.getElem_mem hlt) f hf).2 g hg m
          simp at he
          rw [okAL_drop hlt]
          cases hc : okA f (some g) a.args[i]
          · simp [hc] at he
            simp [round, Tryz.f90, a90, reg90, loop90, draw90, dok90, hlt, w2, h3, he]
          · simp [hc] at he
            simp [round, Tryz.f90, a90, reg90, loop90, draw90, dok90, hlt, w2, h3, he, endRound_M0, endRound_L]
            refine hrec (i + 1) _ _ ?_ ?_ ?_ ?_
            · omega
            · omega
            · simp
            · simp
        · clear hrec
          rw [List.drop_eq_nil_of_le (by omega), okAL]
          simp [round, Tryz.f90, a90, reg90, loop90, draw90, dok90, hlt]
    · have hop : a.op = 1 := by assumption
      rw [hop] at har c1 hnm
      simp [Tryz.f90, a90, reg90, loop90, draw90, dok90, har, eq_true c1, hnm, hop]
      refine loop_in2 (fun i : Nat => ⟨[(3, .ptr m.bx.length 0), (4, .ptr (m.bx.length + 1) 0), (37, .isl false a.args.length (Fm.cellsL a.args)), (38, .int .i64 a.args.length), (39, .int .i64 i)], ⟨m.bx ++ [f.cells, g.cells, a.cells], m.rw⟩⟩)
        (fun i => some (.ret (.bool (okAL f (some g) (a.args.drop i))), m)) (fun i => a.args.length - i) (fun i => i ≤ a.args.length) 0 ?_ ?_ ?_ ?_ ?_
      · simp [hop]
      · simp
      · simp
      · intro x; simp [Tryz.f90, a90, reg90, loop90, draw90, dok90]
      · intro i hi hrec
        by_cases hlt : i < a.args.length
        · have w2 : IntKind.i64.wrap (i + 1) = i + 1 := wrap_id _ (by omega)
          have h3 : (i + 1) * 4 ≤ a.args.length * 4 := by omega
          have he := fun m => (H a.args[i] (List.getElem_mem hlt) f hf).2 g hg m
          simp at he
          rw [okAL_drop hlt]
          cases hc : okA f (some g) a.args[i]
          · simp [hc] at he
            simp [round, Tryz.f90, a90, reg90, loop90, draw90, dok90, hlt, w2, h3, he]
          · simp [hc] at he
            simp [round, Tryz.f90, a90, reg90, loop90, draw90, dok90, hlt, w2, h3, he, endRound_M0, endRound_L]
            refine hrec (i + 1) _ _ ?_ ?_ ?_ ?_
            · omega
            · omega
            · simp
            · simp
        · clear hrec
          rw [List.drop_eq_nil_of_le (by omega), okAL]
          simp [round, Tryz.f90, a90, reg90, loop90, draw90, dok90, hlt]
    · have hop : a.op = 2 := by assumption
      rw [hop] at har c1 hnm
      simp [Tryz.f90, a90, reg90, loop90, draw90, dok90, har, eq_true c1, hnm, hop]
      refine loop_in2 (fun i : Nat => ⟨[(3, .ptr m.bx.length 0), (4, .ptr (m.bx.length + 1) 0), (37, .isl false a.args.length (Fm.cellsL a.args)), (38, .int .i64 a.args.length), (39, .int .i64 i)], ⟨m.bx ++ [f.cells, g.cells, a.cells], m.rw⟩⟩)
        (fun i => some (.ret (.bool (okAL f (some g) (a.args.drop i))), m)) (fun i => a.args.length - i) (fun i => i ≤ a.args.length) 0 ?_ ?_ ?_ ?_ ?_
      · simp [hop]
      · simp
      · simp
      · intro x; simp [Tryz.f90, a90, reg90, loop90, draw90, dok90]
      · intro i hi hrec
        by_cases hlt : i < a.args.length
        · have w2 : IntKind.i64.wrap (i + 1) = i + 1 := wrap_id _ (by omega)
          have h3 : (i + 1) * 4 ≤ a.args.length * 4 := by omega
          have he := fun m => (H a.args[i] (List.getElem_mem hlt) f hf).2 g hg m
          simp at he
          rw [okAL_drop hlt]
          cases hc : okA f (some g) a.args[i]
          · simp [hc] at he
            simp [round, Tryz.f90, a90, reg90, loop90, draw90, dok90, hlt, w2, h3, he]
          · simp [hc] at he
            simp [round, Tryz.f90, a90, reg90, loop90, draw90, dok90, hlt, w2, h3, he, endRound_M0, endRound_L]
            refine hrec (i + 1) _ _ ?_ ?_ ?_ ?_
            · omega
            · omega
            · simp
            · simp
        · clear hrec
          rw [List.drop_eq_nil_of_le (by omega), okAL]
          simp [round, Tryz.f90, a90, reg90, loop90, draw90, dok90, hlt]
  · rw [if_neg c3]
    have n0 : ¬ a.op = 0 := by omega
    have n1 : ¬ a.op = 1 := by omega
    have n2 : ¬ a.op = 2 := by omega
    have hki := ev_KindA a.op
    by_cases c4 : kindO a.op = g.kind
    case neg => simp [Tryz.f90, a90, reg90, loop90, draw90, dok90, har, eq_true c1, hnm, n0, n1, n2, hki, c4]
    rw [if_pos c4]
    by_cases c5 : a.op = 4
    · obtain ⟨b, hb1⟩ := one_arg c1 (by omega) (by omega) (by omega)
      have he := fun m => (H b (by rw [hb1]; exact List.mem_cons_self) f hf).1 m
      rw [c5, hb1] at hnm
      rw [c5, show arityA 4 = 1 from rfl] at har
      rw [c5] at hki
      rw [c5] at c4
      simp at he har
      simp [Fm.cellsL] at hnm
      simp [Tryz.f90, a90, reg90, loop90, draw90, dok90, har, c5, hb1, Fm.cellsL, hnm, hki, eq_true c4, he, okAL, show arityA 4 = 1 from rfl]
    by_cases c6 : a.op = 5
    · have hb1 : a.args = [] := by
        rw [c6, show arityA 5 = 0 from rfl] at c1
        exact List.eq_nil_of_length_eq_zero (by omega)
      rw [c6, hb1] at hnm
      rw [c6, show arityA 5 = 0 from rfl] at har
      rw [c6] at hki
      rw [c6] at c4
      try simp at har
      try simp at hnm
      simp [Tryz.f90, a90, reg90, loop90, draw90, dok90, har, c6, hb1, hnm, hki, eq_true c4, show arityA 5 = 0 from rfl]
    obtain ⟨b, hb1⟩ := one_arg c1 n0 c6 n2
    have n3 : ¬ a.op = 3 := fun h => by
      rw [h, show kindO 3 = -1 from rfl] at c4
      omega
    have hlt := part_lt hg (by omega) o1 c4
    have hp := ev_RPart g a.op hlt
    have he := fun m => (H b (by rw [hb1]; exact List.mem_cons_self) f hf).2 (partA g a.op) (part_shaped hg hlt) m
    rw [hb1] at c1 hnm
    simp [Fm.cellsL] at hnm
    simp at hp he c1
    simp [Tryz.f90, a90, reg90, loop90, draw90, dok90, har, hb1, Fm.cellsL, ← c1, hnm, n0, n1, n2, hki, eq_true c4, c5, c6, hp, he, okAL]
theorem ev_SOk (N : Nat) : ∀ (a : Fm), a.nodes ≤ N → a.nodes ≤ 1000000000 → SOk a := by
  induction N with
  | zero => intro a hN; have := a.nodes_pos; omega
  | succ N ih =>
  intro a hN hb
  have H : ∀ b, b ∈ a.args → SOk b := fun b hm => ih b (by have := Fm.nodes_arg hm; omega) (by have := Fm.nodes_arg hm; omega)
  exact fun f hf => ⟨fun m => ev_state1 a hb H f hf m, fun g hg m => ev_value1 a hb H f hf g hg m⟩
theorem leftA_dec (a : Fm) : decide (0 < leftA a 2001) = decide (a.nodes ≤ 2000) := by
  rw [leftA_nodes a 2001 (by omega), Bool.eq_iff_iff, decide_eq_true_eq, decide_eq_true_eq]
  omega
theorem ev_IsA (f : Fun) (a : Fm) (hf : shapedF f = true) (hb : a.nodes ≤ 1000000000) (m : Mem) : evCall C0 21 [.agg f.cells, .agg a.cells] m = some (.ret (.bool (isFm f a)), m) := by
  rw [evCall_body C0 (C0_ext _ (by decide)) (by rw [C0_P]; exact Tryz.func21) rfl (by rw [C0_ann]; rfl) (by rw [C0_ann]; rfl) (by decide) (by simp [Tryz.f21])]
  have h1 := fun m => ev_FewA a 2000 m (by omega) (by omega)
  rw [show (2000 : Int) + 1 = 2001 from rfl, leftA_dec] at h1
  have h2 := ev_RSizeA a.nodes a (Nat.le_refl _) hb
  have h3 := (ev_SOk a.nodes a (Nat.le_refl _) hb f hf).1
  simp at h1 h2 h3
  unfold isFm
  by_cases c1 : a.nodes ≤ 2000
  · by_cases c2 : a.depth ≤ 100
    · have c2' : (a.depth : Int) ≤ 100 := by omega
      simp [Tryz.f21, a21, reg21, h1, h2, h3, c1, c2, c2']
    · have c2' : ¬ (a.depth : Int) ≤ 100 := by omega
      simp [Tryz.f21, a21, reg21, h1, h2, c1, c2, c2']
  · simp [Tryz.f21, a21, reg21, h1, c1]
set_option maxHeartbeats 1000000 in
theorem ev_PNums (f : Fun) (a : Fm) (m : Mem) : evCall C0 115 [.agg f.cells, .agg a.cells] m = some (.ret (.bool (numsA f a.op a.num a.mun)), m) := by
  rw [evCall_body C0 (C0_ext _ (by decide)) (by rw [C0_P]; exact Tryz.func115) rfl (by rw [C0_ann]; rfl) (by rw [C0_ann]; rfl) (by decide) (by simp [Tryz.f115])]
  unfold numsA
  by_cases h5 : a.op = 5
  · by_cases c1 : 0 ≤ a.num
    · by_cases c2 : a.num < f.num
      · simp [Tryz.f115, a115, reg115, h5, c1, c2]
      · simp [Tryz.f115, a115, reg115, h5, c1, c2]
    · simp [Tryz.f115, a115, reg115, h5, c1]
  by_cases h10 : a.op = 10
  · by_cases c1 : 0 ≤ a.num
    · by_cases c2 : a.num < f.num
      · simp [Tryz.f115, a115, reg115, h10, c1, c2]
      · simp [Tryz.f115, a115, reg115, h10, c1, c2]
    · simp [Tryz.f115, a115, reg115, h10, c1]
  by_cases h12 : a.op = 12
  · by_cases c1 : 1 ≤ a.num
    · by_cases c2 : a.num ≤ 1048576
      · simp [Tryz.f115, a115, reg115, h12, c1, c2]
      · simp [Tryz.f115, a115, reg115, h12, c1, c2]
    · simp [Tryz.f115, a115, reg115, h12, c1]
  by_cases h13 : a.op = 13
  · by_cases c1 : 1 ≤ a.num
    · by_cases c2 : a.num ≤ a.mun
      · simp [Tryz.f115, a115, reg115, h13, c1, c2]
      · simp [Tryz.f115, a115, reg115, h13, c1, c2]
    · simp [Tryz.f115, a115, reg115, h13, c1]
  by_cases c1 : a.num = 0
  · simp [Tryz.f115, a115, reg115, h5, h10, h12, h13, c1]
  · simp [Tryz.f115, a115, reg115, h5, h10, h12, h13, c1]
theorem ev_PPart (f : Fun) (op : Int) (h : (if op = 7 ∨ op = 9 then 1 else 0) < f.args.length) (m : Mem) : evCall C0 116 [.agg f.cells, .int .i64 op] m = some (.ret (.agg (partA f op).cells), m) := by
  rw [evCall_body C0 (C0_ext _ (by decide)) (by rw [C0_P]; exact Tryz.func116) rfl (by rw [C0_ann]; rfl) (by rw [C0_ann]; rfl) (by decide) (by simp [Tryz.f116])]
  unfold partA
  by_cases h7 : op = 7
  · subst h7
    simp at h
    have h3 : 6 ≤ f.args.length * 3 := by omega
    have h' : (1 : Int) < f.args.length := by omega
    have hat := Fun.at_cellsL f.args 1 h
    have hg : f.args.getD 1 f = f.args[1] := by simp [h]
    simp at hat
    simp [Tryz.f116, a116, reg116, h, h', h3, hat, hg]
  by_cases h9 : op = 9
  · subst h9
    simp at h
    have h3 : 6 ≤ f.args.length * 3 := by omega
    have h' : (1 : Int) < f.args.length := by omega
    have hat := Fun.at_cellsL f.args 1 h
    have hg : f.args.getD 1 f = f.args[1] := by simp [h]
    simp at hat
    simp [Tryz.f116, a116, reg116, h, h', h3, hat, hg]
  · have hn : ¬ (op = 7 ∨ op = 9) := by omega
    rw [if_neg hn] at h ⊢
    have h3 : 3 ≤ f.args.length * 3 := by omega
    have hat := Fun.at_cellsL f.args 0 h
    have hg : f.args.getD 0 f = f.args[0] := by simp [h]
    simp at hat
    simp [Tryz.f116, a116, reg116, h7, h9, h, h3, hat, hg]
@[simp] theorem rulesT_length : rulesT.length = 42 := by decide
theorem rulesT_args {k : Int} (h0 : 0 ≤ k) (h13 : k ≤ 13) : (rulesT.drop (k.toNat * 3 + 2)).take 1 = [.int .i64 (arityA k)] := by
  have : k = 0 ∨ k = 1 ∨ k = 2 ∨ k = 3 ∨ k = 4 ∨ k = 5 ∨ k = 6 ∨ k = 7 ∨ k = 8 ∨ k = 9 ∨ k = 10 ∨ k = 11 ∨ k = 12 ∨ k = 13 := by omega
  rcases this with rfl | rfl | rfl | rfl | rfl | rfl | rfl | rfl | rfl | rfl | rfl | rfl | rfl | rfl <;> rfl
theorem rulesT_kind {k : Int} (h0 : 4 ≤ k) (h13 : k ≤ 13) : (rulesT.drop (k.toNat * 3 + 1)).take 1 = [.int .i64 (kindO k)] := by
  have : k = 4 ∨ k = 5 ∨ k = 6 ∨ k = 7 ∨ k = 8 ∨ k = 9 ∨ k = 10 ∨ k = 11 ∨ k = 12 ∨ k = 13 := by omega
  rcases this with rfl | rfl | rfl | rfl | rfl | rfl | rfl | rfl | rfl | rfl <;> rfl
@[simp] theorem cells_nilp : A.cells .nilp = [.nilp] := _root_.id rfl
theorem leave_setc (P : Program) {X b : List (List A)} {R : List Row} (r : Res) (i : Nat) (cs : List A) (hcs : cs.all (closed X.length R.length) = true) : leave P false ⟨X, R⟩ r ⟨X.set i cs ++ b, R⟩ = some (erR (er P X.length R.length R 4) r, ⟨X.set i cs, R⟩) := leave_setb P ⟨X, R⟩ b r i cs hcs
theorem leave_S (P : Program) {M L : List (List A)} {k : Nat} {x x' : List A} {R : List Row} (r : Res) (hk : k < M.length) (hx : x'.all (closed (M.length + L.length) R.length) = true) : leave P false ⟨M.set k x ++ L, R⟩ r ⟨M.set k x' ++ L, R⟩ = some (erR (er P (M.length + L.length) R.length R 4) r, ⟨M.set k x' ++ L, R⟩) := by
  have := leave_setb P ⟨M.set k x ++ L, R⟩ [] r k x' (by simpa using hx)
  have e : (M.set k x ++ L).set k x' = M.set k x' ++ L := by
    rw [List.set_append_left _ _ (by simpa using hk), List.set_set]
  simp only [e, List.append_nil, List.length_append, List.length_set] at this
  exact this
def goA (ok : Fm → Int → Bool × Int) : List Fm → Int → Bool × Int
  | [], q => (true, q)
  | b :: r, q => if (ok b q).1 then goA ok r (ok b q).2 else (false, (ok b q).2)
def goI (ok : Fm → Int → Bool × Int) : List Fm → Nat → Int → Int
  | [], _, _ => -1
  | b :: r, i, q => if (ok b q).1 then goI ok r (i + 1) (ok b q).2 else i
theorem goI_go (ok : Fm → Int → Bool × Int) : ∀ (l : List Fm) (i : Nat) (q : Int), decide (0 ≤ goI ok l i q) = !(goA ok l q).1
  | [], i, q => by rw [goI, goA]; rfl
  | b :: r, i, q => by
    rw [goI, goA]
    split
    · exact goI_go ok r (i + 1) _
    · simp
theorem goA_drop {ok : Fm → Int → Bool × Int} {l : List Fm} {i : Nat} (h : i < l.length) (q : Int) : goA ok (l.drop i) q = if (ok l[i] q).1 then goA ok (l.drop (i + 1)) (ok l[i] q).2 else (false, (ok l[i] q).2) := by
  rw [List.drop_eq_getElem_cons h, goA]
theorem goI_drop {ok : Fm → Int → Bool × Int} {l : List Fm} {i : Nat} (h : i < l.length) (q : Int) : goI ok (l.drop i) i q = if (ok l[i] q).1 then goI ok (l.drop (i + 1)) (i + 1) (ok l[i] q).2 else i := by
  rw [List.drop_eq_getElem_cons h, goI]
section
variable {h : FuncId} {caps : List A} {M L : List (List A)} {id : Nat} {top : Fun} {R : List Row} {ok : Fm → Int → Bool × Int}
set_option maxHeartbeats 2000000 in
theorem ev_IndexAS (l : List Fm) (hl : l.length ≤ 1000000000) (hid : id < M.length) (hcl : caps.all (closed (M.length + L.length) R.length) = true) (hLc : L.all (fun cs => cs.all (closed (M.length + L.length) R.length)) = true) (B : Int → Prop)
    (hp : ∀ b, b ∈ l → ∀ q, B q → evCall C0 h (.agg b.cells :: caps) ⟨M.set id (top.cells ++ [.int .i64 q]) ++ L, R⟩ = some (.ret (.bool (!(ok b q).1)), ⟨M.set id (top.cells ++ [.int .i64 (ok b q).2]) ++ L, R⟩))
    (hB : ∀ b, b ∈ l → ∀ q, B q → (ok b q).1 = true → B (ok b q).2) (q0 : Int) (hq0 : B q0) :
    evCall C0 153 [.isl false l.length (Fm.cellsL l), .fn h caps] ⟨M.set id (top.cells ++ [.int .i64 q0]) ++ L, R⟩ = some (.ret (.int .i64 (goI ok l 0 q0)), ⟨M.set id (top.cells ++ [.int .i64 (goA ok l q0).2]) ++ L, R⟩) := by
  rw [evCall_body C0 (C0_ext _ (by decide)) (by rw [C0_P]; exact Tryz.func153) rfl (by rw [C0_ann]; rfl) (by rw [C0_ann]; rfl) (by decide) (by simp [Tryz.f153])]
  simp [Tryz.f153, a153, reg153, loop153]
  refine loop_in (fun x : Nat × Int => ⟨[(0, .isl false l.length (Fm.cellsL l)), (1, .fn h caps), (7, .int .i64 l.length), (8, .int .i64 x.1)], ⟨M.set id (top.cells ++ [.int .i64 x.2]) ++ L, R⟩⟩)
    (fun x => some (.ret (.int .i64 (goI ok (l.drop x.1) x.1 x.2)), ⟨M.set id (top.cells ++ [.int .i64 (goA ok (l.drop x.1) x.2).2]) ++ L, R⟩)) (fun x => l.length - x.1) (fun x => x.1 ≤ l.length ∧ B x.2) (0, q0) ?_ ?_ ?_ ?_ ?_
  · simp
  · simp
  · exact ⟨by simp, hq0⟩
  · intro x; simp [Tryz.f153, a153, reg153, loop153]
  · rintro ⟨i, q⟩ ⟨hi, hq⟩ hrec
    simp only at hi hq
    by_cases hlt : i < l.length
    · have w2 : IntKind.i64.wrap (i + 1) = i + 1 := wrap_id _ (by omega)
      have h3 : (i + 1) * 4 ≤ l.length * 4 := by omega
      have he := hp l[i] (List.getElem_mem hlt) q hq
      have hb := hB l[i] (List.getElem_mem hlt) q hq
      simp at he
      rw [goI_drop hlt, goA_drop hlt]
      cases hc : (ok l[i] q).1
      · simp [hc] at he
        simp [round, Tryz.f153, a153, reg153, loop153, hlt, w2, h3, he, leave_S _ _ hid]
      · simp [hc] at he
        simp [round, Tryz.f153, a153, reg153, loop153, hlt, w2, h3, he, endRound_S, hcl, hLc]
        refine hrec (i + 1, (ok l[i] q).2) _ _ ?_ ?_ ?_ ?_
        · simp; omega
        · exact ⟨by simp; omega, hb hc⟩
        · simp
        · simp
    · clear hrec
      rw [List.drop_eq_nil_of_le (by omega), goI, goA]
      simp [round, Tryz.f153, a153, reg153, loop153, hlt, leave_S _ _ hid]
theorem ev_ContainsAS (l : List Fm) (hl : l.length ≤ 1000000000) (hid : id < M.length) (hcl : caps.all (closed (M.length + L.length) R.length) = true) (hLc : L.all (fun cs => cs.all (closed (M.length + L.length) R.length)) = true) (B : Int → Prop)
    (hp : ∀ b, b ∈ l → ∀ q, B q → evCall C0 h (.agg b.cells :: caps) ⟨M.set id (top.cells ++ [.int .i64 q]) ++ L, R⟩ = some (.ret (.bool (!(ok b q).1)), ⟨M.set id (top.cells ++ [.int .i64 (ok b q).2]) ++ L, R⟩))
    (hB : ∀ b, b ∈ l → ∀ q, B q → (ok b q).1 = true → B (ok b q).2) (q0 : Int) (hq0 : B q0) :
    evCall C0 113 [.isl false l.length (Fm.cellsL l), .fn h caps] ⟨M.set id (top.cells ++ [.int .i64 q0]) ++ L, R⟩ = some (.ret (.bool (!(goA ok l q0).1)), ⟨M.set id (top.cells ++ [.int .i64 (goA ok l q0).2]) ++ L, R⟩) := by
  rw [evCall_body C0 (C0_ext _ (by decide)) (by rw [C0_P]; exact Tryz.func113) rfl (by rw [C0_ann]; rfl) (by rw [C0_ann]; rfl) (by decide) (by simp [Tryz.f113])]
  have he := ev_IndexAS l hl hid hcl hLc B hp hB q0 hq0
  have hg := goI_go ok l 0 q0
  try simp at he
  simp [Tryz.f113, a113, reg113, he, hg, leave_S _ _ hid]
end
theorem goA_valid (top : Fun) (g : Option Fun) (deep : Int) : ∀ (l : List Fm) (q : Int), goA (fun b q => validA top g b q (deep + 1)) l q = validAL top g l q deep
  | [], q => by rw [goA, validAL]
  | b :: r, q => by
    rw [goA, validAL]
    rw [goA_valid top g deep r]
def GP (bx : List (List A)) (id : Nat) (top : Fun) : Option Fun → A → Prop
  | none, pg => pg = .nilp
  | some g, pg => ∃ gid, pg = .ptr gid 0 ∧ ((gid ≠ id ∧ bx[gid]? = some g.cells) ∨ (gid = id ∧ g = top))
theorem GP.at {bx : List (List A)} {id : Nat} {top : Fun} {g : Option Fun} {pg : A} (h : GP bx id top g pg) (x : List A) (L : List (List A)) (hid : id < bx.length) : GP (bx.set id x ++ L) id top g pg := by
  cases g with
  | none => exact h
  | some g =>
    obtain ⟨gid, h1, h2⟩ := h
    refine ⟨gid, h1, ?_⟩
    rcases h2 with ⟨h2, h3⟩ | h2
    · left
      refine ⟨h2, ?_⟩
      have hl : gid < bx.length := (List.getElem?_eq_some_iff.1 h3).1
      rw [List.getElem?_append_left (by simpa using hl), List.getElem?_set_ne (fun e => h2 e.symm)]
      exact h3
    · right; exact h2
theorem GP.closed {bx : List (List A)} {id : Nat} {top : Fun} {g : Option Fun} {pg : A} (h : GP bx id top g pg) (hid : id < bx.length) (n nr : Nat) (hn : bx.length ≤ n) : closed n nr pg = true ∧ flat pg = true ∧ pg.cells = [pg] := by
  cases g with
  | none => rw [show pg = A.nilp from h]; exact ⟨rfl, rfl, rfl⟩
  | some g =>
    obtain ⟨gid, h1, h2⟩ := h
    subst h1
    refine ⟨?_, rfl, rfl⟩
    have : gid < n := by
      rcases h2 with ⟨h2, h3⟩ | h2
      · have hl : gid < bx.length := (List.getElem?_eq_some_iff.1 h3).1
        omega
      · omega
    simp [this]
def VOk (a : Fm) : Prop := ∀ (top : Fun) (g : Option Fun) (pg : A) (left deep : Int) (m : Mem) (id : Nat), shapedF top = true → (∀ g', g = some g' → shapedF g' = true) → -1000000 ≤ left → left ≤ 1000000 → 0 ≤ deep → deep ≤ 1000000 → m.bx[id]? = some (top.cells ++ [.int .i64 left]) → GP m.bx id top g pg →
  evCall C0 75 [.ptr id 0, pg, .agg a.cells, .int .i64 deep] m = some (.ret (.bool (validA top g a left deep).1), ⟨m.bx.set id (top.cells ++ [.int .i64 (validA top g a left deep).2]), m.rw⟩)
theorem ev_valid_in (b : Fm) (H : VOk b) (top : Fun) (g : Option Fun) (pg : A) (q deep : Int) (M L : List (List A)) (R : List Row) (id b0 : Nat) (hs : shapedF top = true) (hgs : ∀ g', g = some g' → shapedF g' = true) (q0 : -1000000 ≤ q) (q1 : q ≤ 1000000) (d0 : 0 ≤ deep) (d1 : deep ≤ 999999) (hid : id < M.length) (hG : GP M id top g pg)
    (k0 : L[0]? = some [.ptr id 0]) (k1 : L[1]? = some [pg]) (k3 : L[3]? = some [.int .i64 deep]) :
    evCall C0 114 [.agg b.cells, .ptr (M.length) 0, .ptr (M.length + 1) 0, .ptr (M.length + 3) 0] ⟨M.set id (top.cells ++ [.int .i64 q]) ++ L, R⟩ = some (.ret (.bool (!(validA top g b q (deep + 1)).1)), ⟨M.set id (top.cells ++ [.int .i64 (validA top g b q (deep + 1)).2]) ++ L, R⟩) := by
  have w : IntKind.i64.wrap (deep + 1) = deep + 1 := wrap_id _ (by omega)
  have hl3 : 3 < L.length := (List.getElem?_eq_some_iff.1 k3).1
  have p0 : (M.set id (top.cells ++ [.int .i64 q]) ++ L)[M.length]? = some [.ptr id 0] := by rw [at_sets0]; exact k0
  have p1 : (M.set id (top.cells ++ [.int .i64 q]) ++ L)[M.length + 1]? = some [pg] := by rw [at_sets]; exact k1
  have p3 : (M.set id (top.cells ++ [.int .i64 q]) ++ L)[M.length + 3]? = some [.int .i64 deep] := by rw [at_sets]; exact k3
  have hbx : (M.set id (top.cells ++ [.int .i64 q]) ++ L)[id]? = some (top.cells ++ [.int .i64 q]) := by rw [List.getElem?_append_left (by simpa using hid)]; simp [hid]
  have he := H top g pg q (deep + 1) ⟨M.set id (top.cells ++ [.int .i64 q]) ++ L ++ [b.cells], R⟩ id hs hgs q0 q1 (by omega) (by omega) (by rw [List.getElem?_append_left (by simp; omega)]; exact hbx) (by
    have := hG.at (top.cells ++ [.int .i64 q]) (L ++ [b.cells]) hid
    rw [← List.append_assoc] at this
    exact this)
  generalize hX : M.set id (top.cells ++ [.int .i64 q]) ++ L = X at p0 p1 p3 hbx he
  have hlX : X.length = M.length + L.length := by rw [← hX]; simp
  have hset : M.set id (top.cells ++ [.int .i64 (validA top g b q (deep + 1)).2]) ++ L = X.set id (top.cells ++ [.int .i64 (validA top g b q (deep + 1)).2]) := by
    rw [← hX, List.set_append_left _ _ (by simpa using hid), List.set_set]
  rw [hset]
  have hidX : id < X.length := by omega
  have hM0 : M.length < X.length := by omega
  have hM1 : M.length + 1 < X.length := by omega
  have hM3 : M.length + 3 < X.length := by omega
  have g0 := (List.getElem?_eq_some_iff.1 p0).2
  have g1 := (List.getElem?_eq_some_iff.1 p1).2
  have g3 := (List.getElem?_eq_some_iff.1 p3).2
  rw [evCall_body C0 (C0_ext _ (by decide)) (by rw [C0_P]; exact Tryz.func114) rfl (by rw [C0_ann]; rfl) (by rw [C0_ann]; rfl) (by decide) (by simp [Tryz.f114])]
  simp [set_lt, hidX] at he
  simp [Tryz.f114, a114, reg114, at_lt, hM0, hM1, hM3, g0, g1, g3, w, he, leave_setc]
def rowR (p : List UInt8 × Int × Int) : List A := [.str p.1, .int .i64 p.2.1, .int .i64 p.2.2]
@[simp] theorem rowR_length (p : List UInt8 × Int × Int) : (rowR p).length = 3 := rfl
@[simp] theorem rowR_take (p : List UInt8 × Int × Int) : (rowR p).take 3 = rowR p := rfl
def rowsR (l : List (List UInt8 × Int × Int)) : List A := l.flatMap rowR
theorem rulesT_rows : rulesT = rowsR rulesL := rfl
theorem rowsR_drop : ∀ (l : List (List UInt8 × Int × Int)) (i : Nat), (rowsR l).drop (i * 3) = rowsR (l.drop i)
  | l, 0 => by simp
  | [], i + 1 => by simp [rowsR]
  | p :: r, i + 1 => by
    rw [show (i + 1) * 3 = 3 + i * 3 by omega, ← List.drop_drop, List.drop_succ_cons, ← rowsR_drop r i]
    congr 1
theorem rowsR_take {l : List (List UInt8 × Int × Int)} {i : Nat} (h : i < l.length) : ((rowsR l).drop (i * 3)).take 3 = rowR l[i] := by
  rw [rowsR_drop, List.drop_eq_getElem_cons h]
  unfold rowsR
  rw [List.flatMap_cons]
  exact List.take_left' rfl
@[simp] theorem rulesT_closed (nb nr : Nat) : rulesT.all (closed nb nr) = true := rfl
@[simp] theorem rulesT_closedL (nb nr : Nat) : closed.closedL nb nr rulesT = true := rfl
@[simp] theorem rulesT_take : rulesT.take 42 = rulesT := rfl
def opIx (s : List UInt8) : List (List UInt8 × Int × Int) → Nat → Int
  | [], _ => -1
  | p :: r, i => if p.1 = s then i else opIx s r (i + 1)
theorem opIx_drop {s : List UInt8} {l : List (List UInt8 × Int × Int)} {i : Nat} (h : i < l.length) : opIx s (l.drop i) i = if l[i].1 = s then (i : Int) else opIx s (l.drop (i + 1)) (i + 1) := by
  rw [List.drop_eq_getElem_cons h, opIx]
theorem opIx_le (s : List UInt8) : ∀ (l : List (List UInt8 × Int × Int)) (i : Nat), opIx s l i = -1 ∨ ((i : Int) ≤ opIx s l i ∧ opIx s l i < i + l.length)
  | [], i => by rw [opIx]; exact .inl rfl
  | p :: r, i => by
    rw [opIx]
    split
    · right; simp; omega
    · rcases opIx_le s r (i + 1) with h | h
      · exact .inl h
      · right; simp at h ⊢; omega
def opL (s : List UInt8) : Int := opIx s rulesL 0
theorem opL_le (s : List UInt8) : opL s = -1 ∨ (0 ≤ opL s ∧ opL s ≤ 13) := by
  have := opIx_le s rulesL 0
  have h14 : rulesL.length = 14 := rfl
  unfold opL
  rw [h14] at this
  omega
theorem ev_form1 (q : Nat) (s : List UInt8) (p : List UInt8 × Int × Int) (m : Mem) (hbx : m.bx[q]? = some [.str s]) :
    evCall C0 73 [.agg (rowR p), .ptr q 0] m = some (.ret (.bool (decide (p.1 = s))), m) := by
  have hid : q < m.bx.length := (List.getElem?_eq_some_iff.1 hbx).1
  have hg : m.bx[q] = [.str s] := (List.getElem?_eq_some_iff.1 hbx).2
  obtain ⟨w, a, b⟩ := p
  rw [evCall_body C0 (C0_ext _ (by decide)) (by rw [C0_P]; exact Tryz.func73) rfl (by rw [C0_ann]; rfl) (by rw [C0_ann]; rfl) (by decide) (by simp [Tryz.f73])]
  by_cases h : w = s
  · simp [Tryz.f73, a73, reg73, hid, at_lt, hg, rowR, h]
  · simp [Tryz.f73, a73, reg73, hid, at_lt, hg, rowR, h]
theorem ev_IndexR (q : Nat) (s : List UInt8) (m : Mem) (hbx : m.bx[q]? = some [.str s]) :
    evCall C0 72 [.isl true 14 rulesT, .fn 73 [.ptr q 0]] m = some (.ret (.int .i64 (opL s)), m) := by
  have hid : q < m.bx.length := (List.getElem?_eq_some_iff.1 hbx).1
  rw [evCall_body C0 (C0_ext _ (by decide)) (by rw [C0_P]; exact Tryz.func72) rfl (by rw [C0_ann]; rfl) (by rw [C0_ann]; rfl) (by decide) (by simp [Tryz.f72])]
  simp [Tryz.f72, a72, reg72, loop72]
  refine loop_in (fun i : Nat => ⟨[(0, .isl true 14 rulesT), (1, .fn 73 [.ptr q 0]), (7, .int .i64 14), (8, .int .i64 i)], m⟩)
    (fun i => some (.ret (.int .i64 (opIx s (rulesL.drop i) i)), m)) (fun i => 14 - i) (fun i => i ≤ 14) 0 ?_ ?_ ?_ ?_ ?_
  · simp
  · simp [opL]
  · simp
  · intro x; simp [Tryz.f72, a72, reg72, loop72]
  · intro i hi hrec
    by_cases hlt : i < 14
    · have w2 : IntKind.i64.wrap (i + 1) = i + 1 := wrap_id _ (by omega)
      have h3 : (i + 1) * 3 ≤ 42 := by omega
      have h14 : i < rulesL.length := hlt
      have ht := rowsR_take h14
      rw [← rulesT_rows] at ht
      have he := ev_form1 q s rulesL[i] m hbx
      rw [opIx_drop h14]
      have hlt' : (i : Int) < 14 := by omega
      by_cases hc : rulesL[i].1 = s
      · simp [hc] at he
        simp [round, Tryz.f72, a72, reg72, loop72, hlt, hlt', w2, h3, ht, he, hc]
      · simp [hc] at he
        simp [round, Tryz.f72, a72, reg72, loop72, hlt, hlt', w2, h3, ht, he, hc, endRound_M0, hid]
        refine hrec (i + 1) _ _ ?_ ?_ ?_ ?_
        · omega
        · omega
        · simp
        · simp
    · clear hrec
      have : i = 14 := by omega
      subst this
      rw [show rulesL.drop 14 = [] from rfl, opIx]
      simp [round, Tryz.f72, a72, reg72, loop72]
def numP : List (List UInt8) → Option Int × List (List UInt8)
  | [] => (none, [])
  | t :: r => (numL t, r)
def takeP (w : List UInt8) : List (List UInt8) → Bool × List (List UInt8)
  | [] => (false, [])
  | t :: r => (decide (t = w), r)
def numsP (k : Int) (l : List (List UInt8)) : Option (Int × Int) × List (List UInt8) :=
  if k = 5 ∨ k = 10 ∨ k = 12 then ((numP l).1.map fun n => (n, 0), (numP l).2)
  else if k = 13 then (match numP l with
    | (none, t) => (none, t)
    | (some n, t) => if (takeP [47] t).1 then ((numP (takeP [47] t).2).1.map fun q => (n, q), (numP (takeP [47] t).2).2) else (none, (takeP [47] t).2))
  else (some (0, 0), l)
abbrev PM := Option Fm × List (List UInt8)
def andP (fm : List (List UInt8) → PM) (l : List (List UInt8)) : PM := match fm l with
  | (none, t) => (none, t)
  | (some a, t) => if (takeP [97, 110, 100] t).1 then (match fm (takeP [97, 110, 100] t).2 with
      | (none, u) => (none, u)
      | (some b, u) => if (takeP [41] u).1 then (some (.mk 2 0 0 [a, b]), (takeP [41] u).2) else (none, (takeP [41] u).2))
    else (none, (takeP [97, 110, 100] t).2)
def argP (fm : List (List UInt8) → PM) (k n q : Int) (l : List (List UInt8)) : PM :=
  if arityA k = 1 then (match fm l with
    | (none, t) => (none, t)
    | (some a, t) => (some (.mk k n q [a]), t))
  else (some (.mk k n q []), l)
def fmL : Nat → List (List UInt8) → PM
  | 0, l => (none, l)
  | _ + 1, [] => (none, [])
  | n + 1, s :: r => if s = [40] then andP (fmL n) r
    else if opL s < 0 ∨ opL s = 2 then (none, r)
    else match numsP (opL s) r with
      | (none, t) => (none, t)
      | (some x, t) => argP (fmL n) (opL s) x.1 x.2 t
theorem numP_suffix (l : List (List UInt8)) : (numP l).2 <:+ l := by
  cases l with
  | nil => exact List.suffix_refl _
  | cons t r => exact List.suffix_cons t r
theorem takeP_suffix (w : List UInt8) (l : List (List UInt8)) : (takeP w l).2 <:+ l := by
  cases l with
  | nil => exact List.suffix_refl _
  | cons t r => exact List.suffix_cons t r
theorem numsP_suffix (k : Int) (l : List (List UInt8)) : (numsP k l).2 <:+ l := by
  unfold numsP
  have h := numP_suffix l
  split
  · exact h
  · split
    · split
      · rename_i t he; rw [he] at h; exact h
      · rename_i n t he
        rw [he] at h
        split
        · exact (numP_suffix _).trans ((takeP_suffix _ _).trans h)
        · exact (takeP_suffix _ _).trans h
    · exact List.suffix_refl _
section
variable {fm : List (List UInt8) → PM} (hf : ∀ l, (fm l).2 <:+ l)
include hf
theorem andP_suffix (l : List (List UInt8)) : (andP fm l).2 <:+ l := by
  have h := hf l
  unfold andP
  split
  · rename_i t he; rw [he] at h; exact h
  · rename_i a t he
    rw [he] at h
    have h2 := hf (takeP [97, 110, 100] t).2
    split
    · split
      · rename_i u hu; rw [hu] at h2; exact h2.trans ((takeP_suffix _ _).trans h)
      · rename_i b u hu
        rw [hu] at h2
        split
        · exact (takeP_suffix _ _).trans (h2.trans ((takeP_suffix _ _).trans h))
        · exact (takeP_suffix _ _).trans (h2.trans ((takeP_suffix _ _).trans h))
    · exact (takeP_suffix _ _).trans h
theorem argP_suffix (k n q : Int) (l : List (List UInt8)) : (argP fm k n q l).2 <:+ l := by
  have h := hf l
  unfold argP
  split
  · split
    · rename_i t he; rw [he] at h; exact h
    · rename_i a t he; rw [he] at h; exact h
  · exact List.suffix_refl _
end
theorem fmL_suffix : ∀ n l, (fmL n l).2 <:+ l
  | 0, l => by rw [fmL]; exact List.suffix_refl _
  | n + 1, [] => by rw [fmL]; exact List.suffix_refl _
  | n + 1, s :: r => by
    have hr : r <:+ s :: r := List.suffix_cons s r
    have h := numsP_suffix (opL s) r
    rw [fmL]
    split
    · exact (andP_suffix (fmL_suffix n) r).trans hr
    · split
      · exact hr
      · split
        · rename_i t he; rw [he] at h; exact h.trans hr
        · rename_i x t he; rw [he] at h; exact (argP_suffix (fmL_suffix n) _ _ _ _).trans (h.trans hr)
def resM (x : PM) : Res := match x.1 with
  | some a => .ret (.agg a.cells)
  | none => .pan wrongL
@[simp] theorem resM_some (a : Fm) (t : List (List UInt8)) : resM (some a, t) = .ret (.agg a.cells) := rfl
@[simp] theorem resM_none (t : List (List UInt8)) : resM (none, t) = .pan wrongL := rfl
theorem ev_takeP (id : Nat) (w : List UInt8) (l : List (List UInt8)) (m : Mem) (hl : l.length ≤ 1000000) (hbx : m.bx[id]? = some (pb l)) :
    evCall C0 71 [.ptr id 0, .str w] m = some (if (takeP w l).1 = true then .ret (.tup []) else .pan wrongL, ⟨m.bx.set id (pb (takeP w l).2), m.rw⟩) := by
  cases l with
  | nil =>
    have hid : id < m.bx.length := (List.getElem?_eq_some_iff.1 hbx).1
    have hg : m.bx[id] = pb [] := (List.getElem?_eq_some_iff.1 hbx).2
    rw [ev_ptake0 id w m hbx]
    simp only [takeP, Bool.false_eq_true, if_false]
    rw [← hg, List.set_getElem_self]
  | cons t r => rw [ev_ptake id w t r m hl hbx]; simp only [takeP, decide_eq_true_eq]
theorem ev_numP (id : Nat) (l : List (List UInt8)) (m : Mem) (hk : TkOk l) (hl : l.length ≤ 1000000) (hbx : m.bx[id]? = some (pb l)) :
    evCall C0 74 [.ptr id 0] m = some (match (numP l).1 with | some n => .ret (.int .i64 n) | none => .pan wrongL, ⟨m.bx.set id (pb (numP l).2), m.rw⟩) := by
  cases l with
  | nil =>
    have hid : id < m.bx.length := (List.getElem?_eq_some_iff.1 hbx).1
    have hg : m.bx[id] = pb [] := (List.getElem?_eq_some_iff.1 hbx).2
    have he := ev_pnext0 id m hbx
    simp only [numP]
    rw [evCall_body C0 (C0_ext _ (by decide)) (by rw [C0_P]; exact Tryz.func74) rfl (by rw [C0_ann]; rfl) (by rw [C0_ann]; rfl) (by decide) (by simp [Tryz.f74])]
    simp [Tryz.f74, a74, reg74, he, wrongL]
    have h2 : m.bx.set id (pb []) = m.bx := by rw [← hg, List.set_getElem_self]
    simp at h2
    rw [h2]
  | cons t r =>
    obtain ⟨c, q, rfl, h1, h2⟩ := hk t (by simp)
    exact ev_pnumber id c q r m h1 h2 hl hbx
def FmOk (id : Nat) (fm : List (List UInt8) → PM) (n : Nat) : Prop := ∀ (l : List (List UInt8)) (m : Mem), TkOk l → l.length ≤ 1000000 → l.length < n → m.bx[id]? = some (pb l) → evCall C0 41 [.ptr id 0] m = some (resM (fm l), ⟨m.bx.set id (pb (fm l).2), m.rw⟩)
set_option maxHeartbeats 8000000 in
theorem ev_pform (id : Nat) : ∀ n, FmOk id (fmL n) n := by
  intro n
  induction n with
  | zero => intro l m hk hl hn; omega
  | succ n ih =>
  intro l m hk hl hn hbx
  have hid : id < m.bx.length := (List.getElem?_eq_some_iff.1 hbx).1
  have hg : m.bx[id] = pb l := (List.getElem?_eq_some_iff.1 hbx).2
  cases l with
  | nil =>
    rw [fmL]
    have hset : m.bx.set id (pb []) = m.bx := by rw [← hg, List.set_getElem_self]
    rw [evCall_body C0 (C0_ext _ (by decide)) (by rw [C0_P]; exact Tryz.func41) rfl (by rw [C0_ann]; rfl) (by rw [C0_ann]; rfl) (by decide) (by simp [Tryz.f41])]
    have e0 := ev_pnext0 id ⟨m.bx ++ [[.int .i64 0, .int .i64 0, .int .i64 0, .nils]], m.rw⟩ (by simp [at_lt, hid, hg])
    simp at hset
    simp [Tryz.f41, a41, reg41, e0, hset, wrongL]
  | cons s r =>
  have hr : r.length < n := by simp at hn; omega
  have hl' : r.length ≤ 1000000 := by simp at hl; omega
  have hkr : TkOk r := hk.suffix (List.suffix_cons s r)
  rw [fmL]
  rw [evCall_body C0 (C0_ext _ (by decide)) (by rw [C0_P]; exact Tryz.func41) rfl (by rw [C0_ann]; rfl) (by rw [C0_ann]; rfl) (by decide) (by simp [Tryz.f41])]
  have e0 := ev_pnext1 id s r ⟨m.bx ++ [[.int .i64 0, .int .i64 0, .int .i64 0, .nils]], m.rw⟩ hl (by simp [at_lt, hid, hg])
  simp [set_lt, hid] at e0
  by_cases h40 : s = [40]
  · subst h40
    rw [if_pos rfl]
    unfold andP
    have e1 := ih r ⟨m.bx.set id (pb r) ++ [[.int .i64 0, .int .i64 0, .int .i64 0, .nils], [.str [40]]], m.rw⟩ hkr hl' hr (by simp [at_lt, hid])
    have hs1 := fmL_suffix n r
    cases h1 : fmL n r with
    | mk o t =>
    rw [h1] at e1 hs1
    dsimp only at hs1
    have hkt := hkr.suffix hs1
    have htl := hs1.length_le
    cases o with
    | none =>
      simp [set_lt, hid] at e1
      simp [Tryz.f41, a41, reg41, at_lt, set_lt, hid, e0, e1, leave_setb]
      simp [wrongL]
    | some a =>
    have e2 := ev_takeP id [97, 110, 100] t ⟨m.bx.set id (pb t) ++ [[.int .i64 0, .int .i64 0, .int .i64 0, .nils], [.str [40]], a.cells], m.rw⟩ (by omega) (by simp [at_lt, hid])
    have hs2 := takeP_suffix [97, 110, 100] t
    cases h2 : takeP [97, 110, 100] t with
    | mk o2 t2 =>
    rw [h2] at e2 hs2
    dsimp only at hs2
    have hk2 := hkt.suffix hs2
    have htl2 := hs2.length_le
    cases o2 with
    | false =>
      simp [set_lt, hid] at e1 e2
      simp [Tryz.f41, a41, reg41, at_lt, set_lt, hid, e0, e1, e2, h2, leave_setb]
      simp [wrongL]
    | true =>
    simp only [if_true]
    have e3 := ih t2 ⟨m.bx.set id (pb t2) ++ [[.int .i64 0, .int .i64 0, .int .i64 0, .nils], [.str [40]], a.cells], m.rw⟩ hk2 (by omega) (by omega) (by simp [at_lt, hid])
    have hs3 := fmL_suffix n t2
    cases h3 : fmL n t2 with
    | mk o3 t3 =>
    rw [h3] at e3 hs3
    dsimp only at hs3
    have htl3 := hs3.length_le
    cases o3 with
    | none =>
      simp [set_lt, hid] at e1 e2 e3
      simp [Tryz.f41, a41, reg41, at_lt, set_lt, hid, e0, e1, e2, e3, h2, h3, leave_setb]
      simp [wrongL]
    | some b =>
    have e4 := ev_takeP id [41] t3 ⟨m.bx.set id (pb t3) ++ [[.int .i64 0, .int .i64 0, .int .i64 0, .nils], [.str [40]], a.cells, b.cells], m.rw⟩ (by omega) (by simp [at_lt, hid])
    cases h4 : takeP [41] t3 with
    | mk o4 t4 =>
    rw [h4] at e4
    cases o4 with
    | false =>
      simp [set_lt, hid] at e1 e2 e3 e4
      simp [Tryz.f41, a41, reg41, at_lt, set_lt, hid, e0, e1, e2, e3, e4, h2, h3, h4, leave_setb]
      simp [wrongL]
    | true =>
      simp [set_lt, hid] at e1 e2 e3 e4
      simp [Tryz.f41, a41, reg41, at_lt, set_lt, hid, e0, e1, e2, e3, e4, h2, h3, h4, Fm.cellsL, leave_setb]
  rw [if_neg h40]
  have e1 := ev_IndexR (m.bx.length + 1) s ⟨m.bx.set id (pb r) ++ [[.int .i64 0, .int .i64 0, .int .i64 0, .nils], [.str s]], m.rw⟩ (by simp)
  simp [set_lt, hid] at e1
  rcases opL_le s with hm | ⟨hp0, hp13⟩
  · rw [if_pos (.inl (by omega))]
    rw [hm] at e1
    simp [Tryz.f41, a41, reg41, at_lt, set_lt, hid, e0, h40, e1, leave_setb, panA]
    simp [wrongL]
  by_cases h2 : opL s = 2
  · rw [if_pos (.inr h2)]
    rw [h2] at e1
    simp [Tryz.f41, a41, reg41, at_lt, set_lt, hid, e0, h40, e1, leave_setb, panA]
    simp [wrongL]
  rw [if_neg (by omega)]
  obtain ⟨k, hk0⟩ : ∃ k, opL s = k := ⟨_, rfl⟩
  rw [hk0] at e1 hp0 hp13 h2 ⊢
  have en : ∀ (x y : Int), evCall C0 74 [.ptr id 0] ⟨m.bx.set id (pb r) ++ [[.int .i64 0, .int .i64 0, .int .i64 0, .nils], [.str s], [.int .i64 k, .int .i64 x, .int .i64 y, .nils]], m.rw⟩ = _ := fun x y => ev_numP id r _ hkr hl' (by simp [at_lt, hid])
  have hsn := numP_suffix r
  cases hnr : numP r with
  | mk on t =>
  rw [hnr] at en hsn
  dsimp only at hsn
  have en := en 0 0
  by_cases k5 : k = 5
  · subst k5
    have har : (rulesT.drop 17).take 1 = [.int .i64 0] := rfl
    unfold numsP
    rw [if_pos (by decide), hnr]
    cases on with
    | none =>
      simp [set_lt, hid] at en
      simp [Tryz.f41, a41, reg41, at_lt, set_lt, hid, e0, h40, e1, en, leave_setb]
      simp [wrongL]
    | some x =>
      simp [set_lt, hid] at en
      simp [Tryz.f41, a41, reg41, at_lt, set_lt, hid, e0, h40, e1, en, har, argP, arityA, setCells, Fm.cellsL, leave_setb]
  by_cases k10 : k = 10
  · subst k10
    have har : (rulesT.drop 32).take 1 = [.int .i64 1] := rfl
    unfold numsP
    rw [if_pos (by decide), hnr]
    cases on with
    | none =>
      simp [set_lt, hid] at en
      simp [Tryz.f41, a41, reg41, at_lt, set_lt, hid, e0, h40, e1, en, leave_setb]
      simp [wrongL]
    | some x =>
      have hst : t <:+ r := hsn
      have ea := ih t ⟨m.bx.set id (pb t) ++ [[.int .i64 0, .int .i64 0, .int .i64 0, .nils], [.str s], [.int .i64 10, .int .i64 x, .int .i64 0, .nils]], m.rw⟩ (hkr.suffix hst) (by have := hst.length_le; omega) (by have := hst.length_le; omega) (by simp [at_lt, hid])
      cases ha : fmL n t with
      | mk oa ta =>
      rw [ha] at ea
      cases oa with
      | none =>
        simp [set_lt, hid] at ea en
        simp [Tryz.f41, a41, reg41, at_lt, set_lt, hid, e0, h40, e1, en, ea, har, ha, argP, arityA, setCells, leave_setb]
        simp [wrongL]
      | some a =>
        simp [set_lt, hid] at ea en
        simp [Tryz.f41, a41, reg41, at_lt, set_lt, hid, e0, h40, e1, en, ea, har, ha, argP, arityA, setCells, Fm.cellsL, leave_setb]
  by_cases k12 : k = 12
  · subst k12
    have har : (rulesT.drop 38).take 1 = [.int .i64 1] := rfl
    unfold numsP
    rw [if_pos (by decide), hnr]
    cases on with
    | none =>
      simp [set_lt, hid] at en
      simp [Tryz.f41, a41, reg41, at_lt, set_lt, hid, e0, h40, e1, en, leave_setb]
      simp [wrongL]
    | some x =>
      have hst : t <:+ r := hsn
      have ea := ih t ⟨m.bx.set id (pb t) ++ [[.int .i64 0, .int .i64 0, .int .i64 0, .nils], [.str s], [.int .i64 12, .int .i64 x, .int .i64 0, .nils]], m.rw⟩ (hkr.suffix hst) (by have := hst.length_le; omega) (by have := hst.length_le; omega) (by simp [at_lt, hid])
      cases ha : fmL n t with
      | mk oa ta =>
      rw [ha] at ea
      cases oa with
      | none =>
        simp [set_lt, hid] at ea en
        simp [Tryz.f41, a41, reg41, at_lt, set_lt, hid, e0, h40, e1, en, ea, har, ha, argP, arityA, setCells, leave_setb]
        simp [wrongL]
      | some a =>
        simp [set_lt, hid] at ea en
        simp [Tryz.f41, a41, reg41, at_lt, set_lt, hid, e0, h40, e1, en, ea, har, ha, argP, arityA, setCells, Fm.cellsL, leave_setb]
  by_cases k13 : k = 13
  · subst k13
    have har : (rulesT.drop 41).take 1 = [.int .i64 1] := rfl
    unfold numsP
    rw [if_neg (by decide), if_pos rfl, hnr]
    cases on with
    | none =>
      simp [set_lt, hid] at en
      simp [Tryz.f41, a41, reg41, at_lt, set_lt, hid, e0, h40, e1, en, leave_setb]
      simp [wrongL]
    | some x =>
    have e2 := ev_takeP id [47] t ⟨m.bx.set id (pb t) ++ [[.int .i64 0, .int .i64 0, .int .i64 0, .nils], [.str s], [.int .i64 13, .int .i64 x, .int .i64 0, .nils]], m.rw⟩ (by have := hsn.length_le; omega) (by simp [at_lt, hid])
    have hs2 := takeP_suffix [47] t
    cases h2t : takeP [47] t with
    | mk o2 t2 =>
    rw [h2t] at e2 hs2
    dsimp only at hs2
    cases o2 with
    | false =>
      simp [set_lt, hid] at en e2
      simp [Tryz.f41, a41, reg41, at_lt, set_lt, hid, e0, h40, e1, en, e2, h2t, setCells, leave_setb]
      simp [wrongL]
    | true =>
    have hs3 := numP_suffix t2
    have e3 := ev_numP id t2 ⟨m.bx.set id (pb t2) ++ [[.int .i64 0, .int .i64 0, .int .i64 0, .nils], [.str s], [.int .i64 13, .int .i64 x, .int .i64 0, .nils]], m.rw⟩ (hkr.suffix (hs2.trans hsn)) (by have := (hs2.trans hsn).length_le; omega) (by simp [at_lt, hid])
    cases h3t : numP t2 with
    | mk o3 t3 =>
    rw [h3t] at e3 hs3
    dsimp only at hs3
    cases o3 with
    | none =>
      simp [set_lt, hid] at en e2 e3
      simp [Tryz.f41, a41, reg41, at_lt, set_lt, hid, e0, h40, e1, en, e2, e3, h2t, h3t, setCells, leave_setb]
      simp [wrongL]
    | some y =>
      have hst : t3 <:+ r := hs3.trans (hs2.trans hsn)
      have ea := ih t3 ⟨m.bx.set id (pb t3) ++ [[.int .i64 0, .int .i64 0, .int .i64 0, .nils], [.str s], [.int .i64 13, .int .i64 x, .int .i64 y, .nils]], m.rw⟩ (hkr.suffix hst) (by have := hst.length_le; omega) (by have := hst.length_le; omega) (by simp [at_lt, hid])
      cases ha : fmL n t3 with
      | mk oa ta =>
      rw [ha] at ea
      cases oa with
      | none =>
        simp [set_lt, hid] at ea en e2 e3
        simp [Tryz.f41, a41, reg41, at_lt, set_lt, hid, e0, h40, e1, en, e2, e3, h2t, h3t, ea, har, ha, argP, arityA, setCells, leave_setb]
        simp [wrongL]
      | some a =>
        simp [set_lt, hid] at ea en e2 e3
        simp [Tryz.f41, a41, reg41, at_lt, set_lt, hid, e0, h40, e1, en, e2, e3, h2t, h3t, ea, har, ha, argP, arityA, setCells, Fm.cellsL, leave_setb]
  have hnk : numsP k r = (some (0, 0), r) := by unfold numsP; rw [if_neg (by omega), if_neg k13]
  rw [hnk]
  have har := rulesT_args hp0 hp13
  have hst : r <:+ r := List.suffix_refl _
  have hkm : 1 ≤ 40 - k.toNat * 3 := by omega
  by_cases ka : arityA k = 1
  · rw [ka] at har
    have hkl : (k.toNat + 1) * 3 ≤ 42 := by omega
    have ea := ih r ⟨m.bx.set id (pb r) ++ [[.int .i64 0, .int .i64 0, .int .i64 0, .nils], [.str s], [.int .i64 k, .int .i64 0, .int .i64 0, .nils]], m.rw⟩ (hkr.suffix hst) (by have := hst.length_le; omega) (by have := hst.length_le; omega) (by simp [at_lt, hid])
    cases ha : fmL n r with
    | mk oa ta =>
    rw [ha] at ea
    cases oa with
    | none =>
      simp [set_lt, hid] at ea
      simp [Tryz.f41, a41, reg41, at_lt, set_lt, hid, e0, h40, e1, k5, k10, k12, k13, hp0, hkl, hkm, h2, show ¬ k < 0 by omega, show k < 14 by omega, ka, ea, har, ha, argP, setCells, leave_setb]
      simp [wrongL]
    | some a =>
      simp [set_lt, hid] at ea
      simp [Tryz.f41, a41, reg41, at_lt, set_lt, hid, e0, h40, e1, k5, k10, k12, k13, hp0, hkl, hkm, h2, show ¬ k < 0 by omega, show k < 14 by omega, ka, ea, har, ha, argP, setCells, Fm.cellsL, leave_setb]
  · have hkl : (k.toNat + 1) * 3 ≤ 42 := by omega
    simp [Tryz.f41, a41, reg41, at_lt, set_lt, hid, e0, h40, e1, har, k5, k10, k12, k13, hp0, hkl, hkm, h2, show ¬ k < 0 by omega, show k < 14 by omega, ka, argP, setCells, Fm.cellsL, leave_setb]
set_option maxHeartbeats 16000000 in
theorem ev_valid_N (a : Fm) (hb : a.nodes ≤ 1000000000) (H : ∀ b, b ∈ a.args → VOk b) (top : Fun) (left deep : Int) (m : Mem) (id : Nat) (hs : shapedF top = true) (hl0 : -1000000 ≤ left) (hl1 : left ≤ 1000000) (hd0 : 0 ≤ deep) (hd1 : deep ≤ 1000000) (hbx : m.bx[id]? = some (top.cells ++ [.int .i64 left])) :
    evCall C0 75 [.ptr id 0, .nilp, .agg a.cells, .int .i64 deep] m = some (.ret (.bool (validA top none a left deep).1), ⟨m.bx.set id (top.cells ++ [.int .i64 (validA top none a left deep).2]), m.rw⟩) := by
  have hid : id < m.bx.length := (List.getElem?_eq_some_iff.1 hbx).1
  have hgm := (List.getElem?_eq_some_iff.1 hbx).2
  have hid4 : id < m.bx.length + 4 := by omega
  have hid1 : id < m.bx.length + 1 := by omega
  rw [evCall_body C0 (C0_ext _ (by decide)) (by rw [C0_P]; exact Tryz.func75) rfl (by rw [C0_ann]; rfl) (by rw [C0_ann]; rfl) (by decide) (by simp [Tryz.f75])]
  have hlen := a.length_args
  rw [validA_eq]
  have w1 : IntKind.i64.wrap (left - 1) = left - 1 := wrap_id _ (by omega)
  by_cases c1 : left - 1 < 0
  case pos => simp [Tryz.f75, a75, reg75, loop75, draw75, dok75, hgm, hid, hid1, hid4, at_lt, set_lt, w1, c1, leave_setb]
  by_cases c2 : 100 < deep
  case pos => simp [Tryz.f75, a75, reg75, loop75, draw75, dok75, hgm, hid, hid1, hid4, at_lt, set_lt, w1, c1, c2, leave_setb]
  by_cases c3 : a.op < 0
  case pos => simp [Tryz.f75, a75, reg75, loop75, draw75, dok75, hgm, hid, hid1, hid4, at_lt, set_lt, w1, c1, c2, c3, leave_setb]
  by_cases c4 : 13 < a.op
  case pos => simp [Tryz.f75, a75, reg75, loop75, draw75, dok75, hgm, hid, hid1, hid4, at_lt, set_lt, w1, c1, c2, c3, c4, leave_setb]
  have k0 : 0 ≤ a.op := by omega
  have k14 : a.op < 14 := by omega
  have har := rulesT_args k0 (by omega)
  have k1 : 1 ≤ 42 - (a.op.toNat * 3 + 2) := by omega
  have k2 : 1 ≤ 42 - (a.op.toNat * 3 + 1) := by omega
  have k3 : a.op.toNat * 3 + 3 ≤ 42 := by omega
  have k4 : 1 ≤ 40 - a.op.toNat * 3 := by omega
  have k5 : 1 ≤ 41 - a.op.toNat * 3 := by omega
  have wd : IntKind.i64.wrap (deep + 1) = deep + 1 := wrap_id _ (by omega)
  by_cases c5 : (a.args.length : Int) = arityA a.op
  case neg => simp [Tryz.f75, a75, reg75, loop75, draw75, dok75, hgm, hid, hid1, hid4, at_lt, set_lt, w1, c1, c2, c3, c4, c5, k0, k14, k1, k2, k3, k4, k5, har, leave_setb]
  have hno : ¬ (left - 1 < 0 ∨ 100 < deep ∨ a.op < 0 ∨ 13 < a.op ∨ ¬ (a.args.length : Int) = arityA a.op) := by
    rintro (h | h | h | h | h)
    · exact c1 h
    · exact c2 h
    · exact c3 h
    · exact c4 h
    · exact h c5
  rw [if_neg hno]
  have hGP : GP m.bx id top none .nilp := rfl
  by_cases c6 : a.op ≤ 2
  · by_cases c7 : a.num = 0 ∧ a.mun = 0
    case neg =>
      have hct : ctxA top none a.op a.num a.mun = none := by unfold ctxA; rw [if_pos c6, if_neg c7]
      rw [hct]
      by_cases c8 : a.num = 0
      · have c9 : ¬ a.mun = 0 := fun h => c7 ⟨c8, h⟩
        simp [Tryz.f75, a75, reg75, loop75, draw75, dok75, hgm, hid, hid1, hid4, at_lt, set_lt, w1, c1, c2, c3, c4, eq_true c5, k0, k14, k1, k2, k3, k4, k5, har, c6, c8, c9, leave_setb]
      · simp [Tryz.f75, a75, reg75, loop75, draw75, dok75, hgm, hid, hid1, hid4, at_lt, set_lt, w1, c1, c2, c3, c4, eq_true c5, k0, k14, k1, k2, k3, k4, k5, har, c6, c8, leave_setb]
    have hct : ctxA top none a.op a.num a.mun = some none := by unfold ctxA; rw [if_pos c6, if_pos c7]
    rw [hct]
    have c9 : ¬ a.op = 3 := by omega
    have hco := ev_ContainsAS (h := 114) (caps := [.ptr m.bx.length 0, .ptr (m.bx.length + 1) 0, .ptr (m.bx.length + 3) 0]) (M := m.bx) (L := [[.ptr id 0], [.nilp], a.cells, [.int .i64 deep]]) (id := id) (top := top) (R := m.rw) (ok := fun b q => validA top none b q (deep + 1)) a.args (by omega) hid (by simp) (by simp [hid4]) (fun q => 0 ≤ q ∧ q ≤ 1000000)
      (fun b hm q hq => ev_valid_in b (H b hm) top none .nilp q deep m.bx _ m.rw id 0 hs (fun g' hg' => by cases hg') (by omega) (by omega) hd0 (by omega) hid hGP rfl rfl rfl)
      (fun b hm q hq h => by have := validA_le top none b q (deep + 1); have := validA_pos top none b q (deep + 1) h; omega) (left - 1) (by omega)
    rw [goA_valid] at hco
    obtain ⟨c7a, c7b⟩ := c7
    simp [c7a, c7b] at hco
    simp [Tryz.f75, a75, reg75, loop75, draw75, dok75, hgm, hid, hid1, hid4, at_lt, set_lt, w1, c1, c2, c3, c4, eq_true c5, k0, k14, k1, k2, k3, k4, k5, har, c6, c7a, c7b, c9, hco, leave_setb]
  by_cases c9 : a.op = 3
  · by_cases c7 : a.num = 0 ∧ a.mun = 0
    case neg =>
      have hct : ctxA top none a.op a.num a.mun = none := by unfold ctxA; rw [if_neg c6, if_pos c9, if_neg (fun h => c7 ⟨h.1, h.2.1⟩)]
      rw [hct]
      by_cases c8 : a.num = 0
      · have c10 : ¬ a.mun = 0 := fun h => c7 ⟨c8, h⟩
        rw [c9] at har c5
        simp at har
        simp [Tryz.f75, a75, reg75, loop75, draw75, dok75, hgm, hid, hid1, hid4, at_lt, set_lt, w1, c1, c2, eq_true c5, har, c9, c8, c10, leave_setb]
      · rw [c9] at har c5
        simp at har
        simp [Tryz.f75, a75, reg75, loop75, draw75, dok75, hgm, hid, hid1, hid4, at_lt, set_lt, w1, c1, c2, eq_true c5, har, c9, c8, leave_setb]
    obtain ⟨c7a, c7b⟩ := c7
    have hct : ctxA top none a.op a.num a.mun = some (some top) := by unfold ctxA; rw [if_neg c6, if_pos c9, if_pos ⟨c7a, c7b, rfl⟩]
    rw [hct]
    obtain ⟨b, hb1⟩ := one_arg c5 (by omega) (by omega) (by omega)
    have he := (H b (by rw [hb1]; exact List.mem_cons_self)) top (some top) (.ptr id 0) (left - 1) (deep + 1) ⟨m.bx.set id (top.cells ++ [.int .i64 (left - 1)]) ++ [[.ptr id 0], [.nilp], a.cells, [.int .i64 deep]], m.rw⟩ id hs (fun g' hg' => by cases hg'; exact hs) (by omega) (by omega) (by omega) (by omega) (by rw [List.getElem?_append_left (by simpa using hid)]; simp [hid]) ⟨id, rfl, .inr ⟨rfl, rfl⟩⟩
    rw [c9] at har c5
    rw [hb1] at c5
    simp at har
    simp [set_lt, hid, hb1, Fm.cellsL, c9, c7a, c7b] at he
    simp only [hb1, validAL_one]
    simp [Tryz.f75, a75, reg75, loop75, draw75, dok75, hgm, hid, hid1, hid4, at_lt, set_lt, w1, wd, c1, c2, har, c9, c7a, c7b, hb1, Fm.cellsL, show arityA 3 = 1 from rfl, he, leave_setb]
  have c6' : ¬ a.op ≤ 2 := c6
  have hkn := rulesT_kind (k := a.op) (by omega) (by omega)
  have hct : ctxA top none a.op a.num a.mun = none := by unfold ctxA; rw [if_neg c6, if_neg c9]
  rw [hct]
  simp [Tryz.f75, a75, reg75, loop75, draw75, dok75, hgm, hid, hid1, hid4, at_lt, set_lt, w1, c1, c2, c3, c4, eq_true c5, k0, k14, k1, k2, k3, k4, k5, har, c6, c9, leave_setb]
set_option maxHeartbeats 16000000 in
theorem ev_valid_P (a : Fm) (hb : a.nodes ≤ 1000000000) (H : ∀ b, b ∈ a.args → VOk b) (top : Fun) (left deep : Int) (m : Mem) (id : Nat) (hs : shapedF top = true) (hl0 : -1000000 ≤ left) (hl1 : left ≤ 1000000) (hd0 : 0 ≤ deep) (hd1 : deep ≤ 1000000) (hbx : m.bx[id]? = some (top.cells ++ [.int .i64 left])) (g : Fun) (gid : Nat) (hgs : shapedF g = true) (hne : ¬ gid = id) (hgc : m.bx[gid]? = some g.cells) :
    evCall C0 75 [.ptr id 0, (.ptr gid 0), .agg a.cells, .int .i64 deep] m = some (.ret (.bool (validA top (some g) a left deep).1), ⟨m.bx.set id (top.cells ++ [.int .i64 (validA top (some g) a left deep).2]), m.rw⟩) := by
  have hid : id < m.bx.length := (List.getElem?_eq_some_iff.1 hbx).1
  have hgm := (List.getElem?_eq_some_iff.1 hbx).2
  have hid4 : id < m.bx.length + 4 := by omega
  have hid1 : id < m.bx.length + 1 := by omega
  have hgl : gid < m.bx.length := (List.getElem?_eq_some_iff.1 hgc).1
  have hgg := (List.getElem?_eq_some_iff.1 hgc).2
  have hne' : ¬ id = gid := fun e => hne e.symm
  have hgl4 : gid < m.bx.length + 4 := by omega
  rw [evCall_body C0 (C0_ext _ (by decide)) (by rw [C0_P]; exact Tryz.func75) rfl (by rw [C0_ann]; rfl) (by rw [C0_ann]; rfl) (by decide) (by simp [Tryz.f75])]
  have hlen := a.length_args
  rw [validA_eq]
  have w1 : IntKind.i64.wrap (left - 1) = left - 1 := wrap_id _ (by omega)
  by_cases c1 : left - 1 < 0
  case pos => simp [Tryz.f75, a75, reg75, loop75, draw75, dok75, hgm, hid, hid1, hid4, at_lt, set_lt, w1, c1, leave_setb, hgl, hgg, hne, hne', hgl4]
  by_cases c2 : 100 < deep
  case pos => simp [Tryz.f75, a75, reg75, loop75, draw75, dok75, hgm, hid, hid1, hid4, at_lt, set_lt, w1, c1, c2, leave_setb, hgl, hgg, hne, hne', hgl4]
  by_cases c3 : a.op < 0
  case pos => simp [Tryz.f75, a75, reg75, loop75, draw75, dok75, hgm, hid, hid1, hid4, at_lt, set_lt, w1, c1, c2, c3, leave_setb, hgl, hgg, hne, hne', hgl4]
  by_cases c4 : 13 < a.op
  case pos => simp [Tryz.f75, a75, reg75, loop75, draw75, dok75, hgm, hid, hid1, hid4, at_lt, set_lt, w1, c1, c2, c3, c4, leave_setb, hgl, hgg, hne, hne', hgl4]
  have k0 : 0 ≤ a.op := by omega
  have k14 : a.op < 14 := by omega
  have har := rulesT_args k0 (by omega)
  have k1 : 1 ≤ 42 - (a.op.toNat * 3 + 2) := by omega
  have k2 : 1 ≤ 42 - (a.op.toNat * 3 + 1) := by omega
  have k3 : a.op.toNat * 3 + 3 ≤ 42 := by omega
  have k4 : 1 ≤ 40 - a.op.toNat * 3 := by omega
  have k5 : 1 ≤ 41 - a.op.toNat * 3 := by omega
  have wd : IntKind.i64.wrap (deep + 1) = deep + 1 := wrap_id _ (by omega)
  by_cases c5 : (a.args.length : Int) = arityA a.op
  case neg => simp [Tryz.f75, a75, reg75, loop75, draw75, dok75, hgm, hid, hid1, hid4, at_lt, set_lt, w1, c1, c2, c3, c4, c5, k0, k14, k1, k2, k3, k4, k5, har, leave_setb, hgl, hgg, hne, hne', hgl4]
  have hno : ¬ (left - 1 < 0 ∨ 100 < deep ∨ a.op < 0 ∨ 13 < a.op ∨ ¬ (a.args.length : Int) = arityA a.op) := by
    rintro (h | h | h | h | h)
    · exact c1 h
    · exact c2 h
    · exact c3 h
    · exact c4 h
    · exact h c5
  rw [if_neg hno]
  have hGP : GP m.bx id top (some g) (.ptr gid 0) := ⟨gid, rfl, .inl ⟨hne, hgc⟩⟩
  by_cases c6 : a.op ≤ 2
  · by_cases c7 : a.num = 0 ∧ a.mun = 0
    case neg =>
      have hct : ctxA top (some g) a.op a.num a.mun = none := by unfold ctxA; rw [if_pos c6, if_neg c7]
      rw [hct]
      by_cases c8 : a.num = 0
      · have c9 : ¬ a.mun = 0 := fun h => c7 ⟨c8, h⟩
        simp [Tryz.f75, a75, reg75, loop75, draw75, dok75, hgm, hid, hid1, hid4, at_lt, set_lt, w1, c1, c2, c3, c4, eq_true c5, k0, k14, k1, k2, k3, k4, k5, har, c6, c8, c9, leave_setb, hgl, hgg, hne, hne', hgl4]
      · simp [Tryz.f75, a75, reg75, loop75, draw75, dok75, hgm, hid, hid1, hid4, at_lt, set_lt, w1, c1, c2, c3, c4, eq_true c5, k0, k14, k1, k2, k3, k4, k5, har, c6, c8, leave_setb, hgl, hgg, hne, hne', hgl4]
    have hct : ctxA top (some g) a.op a.num a.mun = some (some g) := by unfold ctxA; rw [if_pos c6, if_pos c7]
    rw [hct]
    have c9 : ¬ a.op = 3 := by omega
    have hco := ev_ContainsAS (h := 114) (caps := [.ptr m.bx.length 0, .ptr (m.bx.length + 1) 0, .ptr (m.bx.length + 3) 0]) (M := m.bx) (L := [[.ptr id 0], [(.ptr gid 0)], a.cells, [.int .i64 deep]]) (id := id) (top := top) (R := m.rw) (ok := fun b q => validA top (some g) b q (deep + 1)) a.args (by omega) hid (by simp) (by simp [hid4, hgl, hgg, hne, hne', hgl4]) (fun q => 0 ≤ q ∧ q ≤ 1000000)
      (fun b hm q hq => ev_valid_in b (H b hm) top (some g) (.ptr gid 0) q deep m.bx _ m.rw id 0 hs (fun g' hg' => by cases hg'; exact hgs) (by omega) (by omega) hd0 (by omega) hid hGP rfl rfl rfl)
      (fun b hm q hq h => by have := validA_le top (some g) b q (deep + 1); have := validA_pos top (some g) b q (deep + 1) h; omega) (left - 1) (by omega)
    rw [goA_valid] at hco
    obtain ⟨c7a, c7b⟩ := c7
    simp [c7a, c7b] at hco
    simp [Tryz.f75, a75, reg75, loop75, draw75, dok75, hgm, hid, hid1, hid4, at_lt, set_lt, w1, c1, c2, c3, c4, eq_true c5, k0, k14, k1, k2, k3, k4, k5, har, c6, c7a, c7b, c9, hco, leave_setb, hgl, hgg, hne, hne', hgl4]
  by_cases c9 : a.op = 3
  · by_cases c7 : a.num = 0 ∧ a.mun = 0
    case neg =>
      have hct : ctxA top (some g) a.op a.num a.mun = none := by unfold ctxA; rw [if_neg c6, if_pos c9, if_neg (fun h => c7 ⟨h.1, h.2.1⟩)]
      rw [hct]
      by_cases c8 : a.num = 0
      · have c10 : ¬ a.mun = 0 := fun h => c7 ⟨c8, h⟩
        rw [c9] at har c5
        simp at har
        simp [Tryz.f75, a75, reg75, loop75, draw75, dok75, hgm, hid, hid1, hid4, at_lt, set_lt, w1, c1, c2, eq_true c5, har, c9, c8, c10, leave_setb, hgl, hgg, hne, hne', hgl4]
      · rw [c9] at har c5
        simp at har
        simp [Tryz.f75, a75, reg75, loop75, draw75, dok75, hgm, hid, hid1, hid4, at_lt, set_lt, w1, c1, c2, eq_true c5, har, c9, c8, leave_setb, hgl, hgg, hne, hne', hgl4]
    obtain ⟨c7a, c7b⟩ := c7
    have hct : ctxA top (some g) a.op a.num a.mun = none := by unfold ctxA; rw [if_neg c6, if_pos c9, if_neg (fun h => by simpa using h.2.2)]
    rw [hct]
    rw [c9] at har c5
    simp at har
    simp [Tryz.f75, a75, reg75, loop75, draw75, dok75, hgm, hid, hid1, hid4, at_lt, set_lt, w1, c1, c2, eq_true c5, har, c9, c7a, c7b, leave_setb, hgl, hgg, hne, hne', hgl4]
  have c6' : ¬ a.op ≤ 2 := c6
  have hkn := rulesT_kind (k := a.op) (by omega) (by omega)
  have hnm := ev_PNums g a
  simp at hnm
  by_cases c10 : g.kind = kindO a.op
  case neg =>
    have hct : ctxA top (some g) a.op a.num a.mun = none := by unfold ctxA; rw [if_neg c6, if_neg c9]; simp only; rw [if_neg (fun h => c10 h.1)]
    rw [hct]
    simp [Tryz.f75, a75, reg75, loop75, draw75, dok75, hgm, hid, hid1, hid4, at_lt, set_lt, w1, c1, c2, c3, c4, eq_true c5, k0, k14, k1, k2, k3, k4, k5, har, c6, c9, hkn, c10, leave_setb, hgl, hgg, hne, hne', hgl4]
  cases c11 : numsA g a.op a.num a.mun
  · have hct : ctxA top (some g) a.op a.num a.mun = none := by unfold ctxA; rw [if_neg c6, if_neg c9]; simp only; rw [if_neg (fun h => by rw [c11] at h; exact absurd h.2 (by decide))]
    rw [hct]
    simp [c11] at hnm
    simp [Tryz.f75, a75, reg75, loop75, draw75, dok75, hgm, hid, hid1, hid4, at_lt, set_lt, w1, c1, c2, c3, c4, eq_true c5, k0, k14, k1, k2, k3, k4, k5, har, c6, c9, hkn, eq_true c10, hnm, leave_setb, hgl, hgg, hne, hne', hgl4]
  simp [c11] at hnm
  by_cases c12 : a.op = 4
  · have hct : ctxA top (some g) a.op a.num a.mun = some none := by unfold ctxA; rw [if_neg c6, if_neg c9]; simp only; rw [if_pos ⟨c10, c11⟩, if_pos c12]
    rw [hct]
    obtain ⟨b, hb1⟩ := one_arg c5 (by omega) (by omega) (by omega)
    have he := (H b (by rw [hb1]; exact List.mem_cons_self)) top none .nilp (left - 1) (deep + 1) ⟨m.bx.set id (top.cells ++ [.int .i64 (left - 1)]) ++ [[.ptr id 0], [(.ptr gid 0)], a.cells, [.int .i64 deep]], m.rw⟩ id hs (fun g' hg' => by cases hg') (by omega) (by omega) (by omega) (by omega) (by rw [List.getElem?_append_left (by simpa using hid)]; simp [hid]) rfl
    rw [c12] at har c5 hkn c10 hnm
    rw [hb1] at c5 hnm
    simp at har hkn
    simp [Fm.cellsL] at hnm
    simp [set_lt, hid, hb1, Fm.cellsL, c12] at he
    simp only [hb1, validAL_one]
    simp [Tryz.f75, a75, reg75, loop75, draw75, dok75, hgm, hid, hid1, hid4, at_lt, set_lt, w1, wd, c1, c2, har, c12, hkn, eq_true c10, hnm, hb1, Fm.cellsL, show arityA 4 = 1 from rfl, he, leave_setb, hgl, hgg, hne, hne', hgl4]
  have hct : ctxA top (some g) a.op a.num a.mun = some (some (partA g a.op)) := by unfold ctxA; rw [if_neg c6, if_neg c9]; simp only; rw [if_pos ⟨c10, c11⟩, if_neg c12]
  rw [hct]
  by_cases c13 : a.op = 5
  · have hb1 : a.args = [] := by
      rw [c13, show arityA 5 = 0 from rfl] at c5
      exact List.eq_nil_of_length_eq_zero (by omega)
    rw [c13] at har hkn c10 hnm
    rw [hb1] at hnm
    simp at har hkn
    simp at hnm
    simp only [hb1, validAL]
    simp [Tryz.f75, a75, reg75, loop75, draw75, dok75, hgm, hid, hid1, hid4, at_lt, set_lt, w1, wd, c1, c2, har, c13, hkn, eq_true c10, hnm, hb1, show arityA 5 = 0 from rfl, leave_setb, hgl, hgg, hne, hne', hgl4]
    rw [evCode_loop]
    simp [round, Tryz.f75, a75, reg75, loop75, draw75, dok75, leave_setb]
  obtain ⟨b, hb1⟩ := one_arg c5 (by omega) c13 (by omega)
  have hlt := part_lt hgs (by omega) (by omega) c10.symm
  have hp := ev_PPart g a.op hlt
  have he := (H b (by rw [hb1]; exact List.mem_cons_self)) top (some (partA g a.op)) (.ptr (m.bx.length + 5) 0) (left - 1) (deep + 1) ⟨m.bx.set id (top.cells ++ [.int .i64 (left - 1)]) ++ [[.ptr id 0], [(.ptr gid 0)], a.cells, [.int .i64 deep], b.cells, (partA g a.op).cells], m.rw⟩ id hs (fun g' hg' => by cases hg'; exact part_shaped hgs hlt) (by omega) (by omega) (by omega) (by omega) (by rw [List.getElem?_append_left (by simpa using hid)]; simp [hid]) ⟨m.bx.length + 5, rfl, .inl ⟨by omega, by simp⟩⟩
  have hlr : (a.args.length : Int) = 1 := by rw [hb1]; rfl
  rw [hb1] at hnm
  simp [Fm.cellsL] at hnm
  simp [set_lt, hid, hb1, Fm.cellsL] at he
  simp at hp
  simp only [hb1, validAL_one]
  rw [hb1] at c5
  simp at c5
  simp [Tryz.f75, a75, reg75, loop75, draw75, dok75, hgm, hid, hid1, hid4, at_lt, set_lt, w1, wd, c1, c2, c3, c4, ← c5, k0, k14, k1, k2, k3, k4, k5, har, c6, c9, c12, c13, hkn, eq_true c10, hnm, hb1, Fm.cellsL, hgl, hgg, hne, hne', hgl4]
  rw [evCode_loop]
  cases hv : (validA top (some (partA g a.op)) b (left - 1) (deep + 1)).1
  · simp [hv] at he
    simp [round, Tryz.f75, a75, reg75, loop75, draw75, dok75, hgm, hid, hid1, hid4, at_lt, set_lt, wd, hp, he, hv, leave_setb, hgl, hgg, hne, hne', hgl4]
  · simp [hv] at he
    simp [round, Tryz.f75, a75, reg75, loop75, draw75, dok75, hgm, hid, hid1, hid4, at_lt, set_lt, wd, hp, he, hv, endRound_S, hgl, hgg, hne, hne', hgl4]
    rw [evCode_loop]
    simp [round, Tryz.f75, a75, reg75, loop75, draw75, dok75, leave_setb]
set_option maxHeartbeats 16000000 in
theorem ev_valid_T (a : Fm) (hb : a.nodes ≤ 1000000000) (H : ∀ b, b ∈ a.args → VOk b) (top : Fun) (left deep : Int) (m : Mem) (id : Nat) (hs : shapedF top = true) (hl0 : -1000000 ≤ left) (hl1 : left ≤ 1000000) (hd0 : 0 ≤ deep) (hd1 : deep ≤ 1000000) (hbx : m.bx[id]? = some (top.cells ++ [.int .i64 left])) :
    evCall C0 75 [.ptr id 0, (.ptr id 0), .agg a.cells, .int .i64 deep] m = some (.ret (.bool (validA top (some top) a left deep).1), ⟨m.bx.set id (top.cells ++ [.int .i64 (validA top (some top) a left deep).2]), m.rw⟩) := by
  have hid : id < m.bx.length := (List.getElem?_eq_some_iff.1 hbx).1
  have hgm := (List.getElem?_eq_some_iff.1 hbx).2
  have hid4 : id < m.bx.length + 4 := by omega
  have hid1 : id < m.bx.length + 1 := by omega
  rw [evCall_body C0 (C0_ext _ (by decide)) (by rw [C0_P]; exact Tryz.func75) rfl (by rw [C0_ann]; rfl) (by rw [C0_ann]; rfl) (by decide) (by simp [Tryz.f75])]
  have hlen := a.length_args
  rw [validA_eq]
  have w1 : IntKind.i64.wrap (left - 1) = left - 1 := wrap_id _ (by omega)
  by_cases c1 : left - 1 < 0
  case pos => simp [Tryz.f75, a75, reg75, loop75, draw75, dok75, hgm, hid, hid1, hid4, at_lt, set_lt, w1, c1, leave_setb]
  by_cases c2 : 100 < deep
  case pos => simp [Tryz.f75, a75, reg75, loop75, draw75, dok75, hgm, hid, hid1, hid4, at_lt, set_lt, w1, c1, c2, leave_setb]
  by_cases c3 : a.op < 0
  case pos => simp [Tryz.f75, a75, reg75, loop75, draw75, dok75, hgm, hid, hid1, hid4, at_lt, set_lt, w1, c1, c2, c3, leave_setb]
  by_cases c4 : 13 < a.op
  case pos => simp [Tryz.f75, a75, reg75, loop75, draw75, dok75, hgm, hid, hid1, hid4, at_lt, set_lt, w1, c1, c2, c3, c4, leave_setb]
  have k0 : 0 ≤ a.op := by omega
  have k14 : a.op < 14 := by omega
  have har := rulesT_args k0 (by omega)
  have k1 : 1 ≤ 42 - (a.op.toNat * 3 + 2) := by omega
  have k2 : 1 ≤ 42 - (a.op.toNat * 3 + 1) := by omega
  have k3 : a.op.toNat * 3 + 3 ≤ 42 := by omega
  have k4 : 1 ≤ 40 - a.op.toNat * 3 := by omega
  have k5 : 1 ≤ 41 - a.op.toNat * 3 := by omega
  have wd : IntKind.i64.wrap (deep + 1) = deep + 1 := wrap_id _ (by omega)
  by_cases c5 : (a.args.length : Int) = arityA a.op
  case neg => simp [Tryz.f75, a75, reg75, loop75, draw75, dok75, hgm, hid, hid1, hid4, at_lt, set_lt, w1, c1, c2, c3, c4, c5, k0, k14, k1, k2, k3, k4, k5, har, leave_setb]
  have hno : ¬ (left - 1 < 0 ∨ 100 < deep ∨ a.op < 0 ∨ 13 < a.op ∨ ¬ (a.args.length : Int) = arityA a.op) := by
    rintro (h | h | h | h | h)
    · exact c1 h
    · exact c2 h
    · exact c3 h
    · exact c4 h
    · exact h c5
  rw [if_neg hno]
  have hGP : GP m.bx id top (some top) (.ptr id 0) := ⟨id, rfl, .inr ⟨rfl, rfl⟩⟩
  by_cases c6 : a.op ≤ 2
  · by_cases c7 : a.num = 0 ∧ a.mun = 0
    case neg =>
      have hct : ctxA top (some top) a.op a.num a.mun = none := by unfold ctxA; rw [if_pos c6, if_neg c7]
      rw [hct]
      by_cases c8 : a.num = 0
      · have c9 : ¬ a.mun = 0 := fun h => c7 ⟨c8, h⟩
        simp [Tryz.f75, a75, reg75, loop75, draw75, dok75, hgm, hid, hid1, hid4, at_lt, set_lt, w1, c1, c2, c3, c4, eq_true c5, k0, k14, k1, k2, k3, k4, k5, har, c6, c8, c9, leave_setb]
      · simp [Tryz.f75, a75, reg75, loop75, draw75, dok75, hgm, hid, hid1, hid4, at_lt, set_lt, w1, c1, c2, c3, c4, eq_true c5, k0, k14, k1, k2, k3, k4, k5, har, c6, c8, leave_setb]
    have hct : ctxA top (some top) a.op a.num a.mun = some (some top) := by unfold ctxA; rw [if_pos c6, if_pos c7]
    rw [hct]
    have c9 : ¬ a.op = 3 := by omega
    have hco := ev_ContainsAS (h := 114) (caps := [.ptr m.bx.length 0, .ptr (m.bx.length + 1) 0, .ptr (m.bx.length + 3) 0]) (M := m.bx) (L := [[.ptr id 0], [(.ptr id 0)], a.cells, [.int .i64 deep]]) (id := id) (top := top) (R := m.rw) (ok := fun b q => validA top (some top) b q (deep + 1)) a.args (by omega) hid (by simp) (by simp [hid4]) (fun q => 0 ≤ q ∧ q ≤ 1000000)
      (fun b hm q hq => ev_valid_in b (H b hm) top (some top) (.ptr id 0) q deep m.bx _ m.rw id 0 hs (fun g' hg' => by cases hg'; exact hs) (by omega) (by omega) hd0 (by omega) hid hGP rfl rfl rfl)
      (fun b hm q hq h => by have := validA_le top (some top) b q (deep + 1); have := validA_pos top (some top) b q (deep + 1) h; omega) (left - 1) (by omega)
    rw [goA_valid] at hco
    obtain ⟨c7a, c7b⟩ := c7
    simp [c7a, c7b] at hco
    simp [Tryz.f75, a75, reg75, loop75, draw75, dok75, hgm, hid, hid1, hid4, at_lt, set_lt, w1, c1, c2, c3, c4, eq_true c5, k0, k14, k1, k2, k3, k4, k5, har, c6, c7a, c7b, c9, hco, leave_setb]
  by_cases c9 : a.op = 3
  · by_cases c7 : a.num = 0 ∧ a.mun = 0
    case neg =>
      have hct : ctxA top (some top) a.op a.num a.mun = none := by unfold ctxA; rw [if_neg c6, if_pos c9, if_neg (fun h => c7 ⟨h.1, h.2.1⟩)]
      rw [hct]
      by_cases c8 : a.num = 0
      · have c10 : ¬ a.mun = 0 := fun h => c7 ⟨c8, h⟩
        rw [c9] at har c5
        simp at har
        simp [Tryz.f75, a75, reg75, loop75, draw75, dok75, hgm, hid, hid1, hid4, at_lt, set_lt, w1, c1, c2, eq_true c5, har, c9, c8, c10, leave_setb]
      · rw [c9] at har c5
        simp at har
        simp [Tryz.f75, a75, reg75, loop75, draw75, dok75, hgm, hid, hid1, hid4, at_lt, set_lt, w1, c1, c2, eq_true c5, har, c9, c8, leave_setb]
    obtain ⟨c7a, c7b⟩ := c7
    have hct : ctxA top (some top) a.op a.num a.mun = none := by unfold ctxA; rw [if_neg c6, if_pos c9, if_neg (fun h => by simpa using h.2.2)]
    rw [hct]
    rw [c9] at har c5
    simp at har
    simp [Tryz.f75, a75, reg75, loop75, draw75, dok75, hgm, hid, hid1, hid4, at_lt, set_lt, w1, c1, c2, eq_true c5, har, c9, c7a, c7b, leave_setb]
  have c6' : ¬ a.op ≤ 2 := c6
  have hkn := rulesT_kind (k := a.op) (by omega) (by omega)
  have hnm := ev_PNums top a
  simp at hnm
  by_cases c10 : top.kind = kindO a.op
  case neg =>
    have hct : ctxA top (some top) a.op a.num a.mun = none := by unfold ctxA; rw [if_neg c6, if_neg c9]; simp only; rw [if_neg (fun h => c10 h.1)]
    rw [hct]
    simp [Tryz.f75, a75, reg75, loop75, draw75, dok75, hgm, hid, hid1, hid4, at_lt, set_lt, w1, c1, c2, c3, c4, eq_true c5, k0, k14, k1, k2, k3, k4, k5, har, c6, c9, hkn, c10, leave_setb]
  cases c11 : numsA top a.op a.num a.mun
  · have hct : ctxA top (some top) a.op a.num a.mun = none := by unfold ctxA; rw [if_neg c6, if_neg c9]; simp only; rw [if_neg (fun h => by rw [c11] at h; exact absurd h.2 (by decide))]
    rw [hct]
    simp [c11] at hnm
    simp [Tryz.f75, a75, reg75, loop75, draw75, dok75, hgm, hid, hid1, hid4, at_lt, set_lt, w1, c1, c2, c3, c4, eq_true c5, k0, k14, k1, k2, k3, k4, k5, har, c6, c9, hkn, eq_true c10, hnm, leave_setb]
  simp [c11] at hnm
  by_cases c12 : a.op = 4
  · have hct : ctxA top (some top) a.op a.num a.mun = some none := by unfold ctxA; rw [if_neg c6, if_neg c9]; simp only; rw [if_pos ⟨c10, c11⟩, if_pos c12]
    rw [hct]
    obtain ⟨b, hb1⟩ := one_arg c5 (by omega) (by omega) (by omega)
    have he := (H b (by rw [hb1]; exact List.mem_cons_self)) top none .nilp (left - 1) (deep + 1) ⟨m.bx.set id (top.cells ++ [.int .i64 (left - 1)]) ++ [[.ptr id 0], [(.ptr id 0)], a.cells, [.int .i64 deep]], m.rw⟩ id hs (fun g' hg' => by cases hg') (by omega) (by omega) (by omega) (by omega) (by rw [List.getElem?_append_left (by simpa using hid)]; simp [hid]) rfl
    rw [c12] at har c5 hkn c10 hnm
    rw [hb1] at c5 hnm
    simp at har hkn
    simp [Fm.cellsL] at hnm
    simp [set_lt, hid, hb1, Fm.cellsL, c12] at he
    simp only [hb1, validAL_one]
    simp [Tryz.f75, a75, reg75, loop75, draw75, dok75, hgm, hid, hid1, hid4, at_lt, set_lt, w1, wd, c1, c2, har, c12, hkn, eq_true c10, hnm, hb1, Fm.cellsL, show arityA 4 = 1 from rfl, he, leave_setb]
  have hct : ctxA top (some top) a.op a.num a.mun = some (some (partA top a.op)) := by unfold ctxA; rw [if_neg c6, if_neg c9]; simp only; rw [if_pos ⟨c10, c11⟩, if_neg c12]
  rw [hct]
  by_cases c13 : a.op = 5
  · have hb1 : a.args = [] := by
      rw [c13, show arityA 5 = 0 from rfl] at c5
      exact List.eq_nil_of_length_eq_zero (by omega)
    rw [c13] at har hkn c10 hnm
    rw [hb1] at hnm
    simp at har hkn
    simp at hnm
    simp only [hb1, validAL]
    simp [Tryz.f75, a75, reg75, loop75, draw75, dok75, hgm, hid, hid1, hid4, at_lt, set_lt, w1, wd, c1, c2, har, c13, hkn, eq_true c10, hnm, hb1, show arityA 5 = 0 from rfl, leave_setb]
    rw [evCode_loop]
    simp [round, Tryz.f75, a75, reg75, loop75, draw75, dok75, leave_setb]
  obtain ⟨b, hb1⟩ := one_arg c5 (by omega) c13 (by omega)
  have hlt := part_lt hs (by omega) (by omega) c10.symm
  have hp := ev_PPart top a.op hlt
  have he := (H b (by rw [hb1]; exact List.mem_cons_self)) top (some (partA top a.op)) (.ptr (m.bx.length + 5) 0) (left - 1) (deep + 1) ⟨m.bx.set id (top.cells ++ [.int .i64 (left - 1)]) ++ [[.ptr id 0], [(.ptr id 0)], a.cells, [.int .i64 deep], b.cells, (partA top a.op).cells], m.rw⟩ id hs (fun g' hg' => by cases hg'; exact part_shaped hs hlt) (by omega) (by omega) (by omega) (by omega) (by rw [List.getElem?_append_left (by simpa using hid)]; simp [hid]) ⟨m.bx.length + 5, rfl, .inl ⟨by omega, by simp⟩⟩
  have hlr : (a.args.length : Int) = 1 := by rw [hb1]; rfl
  rw [hb1] at hnm
  simp [Fm.cellsL] at hnm
  simp [set_lt, hid, hb1, Fm.cellsL] at he
  simp at hp
  simp only [hb1, validAL_one]
  rw [hb1] at c5
  simp at c5
  simp [Tryz.f75, a75, reg75, loop75, draw75, dok75, hgm, hid, hid1, hid4, at_lt, set_lt, w1, wd, c1, c2, c3, c4, ← c5, k0, k14, k1, k2, k3, k4, k5, har, c6, c9, c12, c13, hkn, eq_true c10, hnm, hb1, Fm.cellsL]
  rw [evCode_loop]
  cases hv : (validA top (some (partA top a.op)) b (left - 1) (deep + 1)).1
  · simp [hv] at he
    simp [round, Tryz.f75, a75, reg75, loop75, draw75, dok75, hgm, hid, hid1, hid4, at_lt, set_lt, wd, hp, he, hv, leave_setb]
  · simp [hv] at he
    simp [round, Tryz.f75, a75, reg75, loop75, draw75, dok75, hgm, hid, hid1, hid4, at_lt, set_lt, wd, hp, he, hv, endRound_S]
    rw [evCode_loop]
    simp [round, Tryz.f75, a75, reg75, loop75, draw75, dok75, leave_setb]
theorem ev_VOk (N : Nat) : ∀ (a : Fm), a.nodes ≤ N → a.nodes ≤ 1000000000 → VOk a := by
  induction N with
  | zero => intro a hN; have := a.nodes_pos; omega
  | succ N ih =>
  intro a hN hb
  have H : ∀ b, b ∈ a.args → VOk b := fun b hm => ih b (by have := Fm.nodes_arg hm; omega) (by have := Fm.nodes_arg hm; omega)
  intro top g pg left deep m id hs hgs h0 h1 h2 h3 hbx hG
  cases g with
  | none =>
    rw [show pg = A.nilp from hG]
    exact ev_valid_N a hb H top left deep m id hs h0 h1 h2 h3 hbx
  | some g =>
    obtain ⟨gid, rfl, h4⟩ := hG
    rcases h4 with ⟨h4, h5⟩ | ⟨rfl, rfl⟩
    · exact ev_valid_P a hb H top left deep m id hs h0 h1 h2 h3 hbx g gid (hgs g rfl) h4 h5
    · exact ev_valid_T a hb H g left deep m gid hs h0 h1 h2 h3 hbx
theorem ev_ValidA (f : Fun) (a : Fm) (hf : shapedF f = true) (hb : a.nodes ≤ 1000000000) (m : Mem) : evCall C0 42 [.agg f.cells, .agg a.cells] m = some (.ret (.bool (isFm f a)), m) := by
  rw [evCall_body C0 (C0_ext _ (by decide)) (by rw [C0_P]; exact Tryz.func42) rfl (by rw [C0_ann]; rfl) (by rw [C0_ann]; rfl) (by decide) (by simp [Tryz.f42])]
  have he := ev_VOk a.nodes a (Nat.le_refl _) hb f none .nilp 2000 1 ⟨m.bx ++ [f.cells, a.cells, f.cells ++ [.int .i64 2000]], m.rw⟩ (m.bx.length + 2) hf (fun g' hg' => by cases hg') (by omega) (by omega) (by omega) (by omega) (by simp) rfl
  rw [valid_isFm] at he
  simp at he
  simp [Tryz.f42, a42, reg42, he]
theorem ev_CheckA (f : Fun) (a : Fm) (hfn : f.nodes ≤ 1000000000) (hb : a.nodes ≤ 1000000000) (m : Mem) : evCall C0 28 [.agg f.cells, .agg a.cells] m = some (.ret (.int .i64 (if okF f then (if isFm f a then 0 else 70) else 10)), m) := by
  rw [evCall_body C0 (C0_ext _ (by decide)) (by rw [C0_P]; exact Tryz.func28) rfl (by rw [C0_ann]; rfl) (by rw [C0_ann]; rfl) (by decide) (by simp [Tryz.f28])]
  have h1 := ev_Valid f hfn
  simp at h1
  cases c1 : okF f
  · simp [Tryz.f28, a28, reg28, h1, c1]
  have h2 := ev_ValidA f a (((okF_iff f).1 c1).2.2) hb
  simp at h2
  cases c2 : isFm f a <;> simp [Tryz.f28, a28, reg28, h1, h2, c1, c2]
end AE
end Go.Proofs.YtopfodhjlhpdmaaGreatDoor
